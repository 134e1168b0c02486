/- Which record fits: plain. -/
import Derived.Lib.IndexMore
import Derived.Test.YtdhmloejgoacaaaGreatDoorMw10
import Derived.Test.YtdhmloejgoacaaaGreatDoorMw20
import Derived.Test.YtdhmloejgoacaaaGreatDoorLqPure
import Derived.Test.YtdhmloejgoacaaaGreatDoorShelf
import Derived.Deep.DeepCutAuto
import Derived.Deep.CutBlock
import Derived.Laws.StructEq
import Derived.Test.YtdhmloejgoacaaaGreatDoorMw24
set_option linter.unusedVariables false
set_option linter.unusedSimpArgs false
namespace Go.Lq
structure At where
  key : Bs
  val : Bs
deriving DecidableEq
/-- A key's value. -/
def getP : List At → Bs → Bs × Bool
  | [], _ => ([], false)
  | a :: l, k => if a.key = k then (a.val, true) else getP l k
def holdsP (m : Mt) (v : Bs) : Bool :=
  if m.op = 1 then decide (v = m.val) else if m.op = 2 then !decide (v = m.val) else if m.op = 3 then Lib.contains v m.val else if m.op = 4 then !Lib.contains v m.val else false
def fitsM (l : List At) : List Mt → Bool
  | [] => true
  | m :: ms => if holdsP m (getP l m.key).1 then fitsM l ms else false
def testP (l : List At) (text : Bs) (m : Mt) : Bool :=
  if m.key = [] then decide (m.op = 3 ∨ m.op = 4) && holdsP m text else holdsP m (getP l m.key).1
def testsP (l : List At) (text : Bs) : List Mt → Bool
  | [] => true
  | m :: ms => if testP l text m then testsP l text ms else false
def fitsQ (q : Qy) (kind level : Int) (l : List At) (text : Bs) : Bool :=
  decide (kind = 2) && (decide (q.level ≤ level) && (fitsM l q.mat && testsP l text q.tests))
theorem fitsM_drop {l : List At} {ms : List Mt} {k : Nat} (hk : k < ms.length) : fitsM l (ms.drop k) = if holdsP ms[k] (getP l ms[k].key).1 then fitsM l (ms.drop (k + 1)) else false := by
  rw [List.drop_eq_getElem_cons hk]; rfl
theorem testsP_drop {l : List At} {t : Bs} {ms : List Mt} {k : Nat} (hk : k < ms.length) : testsP l t (ms.drop k) = if testP l t ms[k] then testsP l t (ms.drop (k + 1)) else false := by
  rw [List.drop_eq_getElem_cons hk]; rfl
theorem getP_drop {l : List At} {x : Bs} {k : Nat} (hk : k < l.length) : getP (l.drop k) x = if l[k].key = x then (l[k].val, true) else getP (l.drop (k + 1)) x := by
  rw [List.drop_eq_getElem_cons hk]; rfl
theorem fitsM_one (l : List At) (m : Mt) : fitsM l [m] = holdsP m (getP l m.key).1 := by
  unfold fitsM fitsM
  cases holdsP m (getP l m.key).1 <;> rfl
theorem occ_iff {s sub : Bs} {i : Nat} (hi : i + sub.length ≤ s.length) : Lib.occAt s sub i = decide ((s.drop i).take sub.length = sub) := by
  rw [Lib.occAt_iff_take s sub i hi, Bool.eq_iff_iff]
  simp
theorem contains_yes {s sub : Bs} {i : Nat} (hi : i + sub.length ≤ s.length) (h : (s.drop i).take sub.length = sub) (hn : ∀ j, j < i → Lib.occAt s sub j = false) : Lib.contains s sub = true := by
  unfold Lib.contains
  rw [Lib.index_first (i := i) (by omega) (by rw [occ_iff hi, decide_eq_true h]) hn]
  simp
theorem contains_no {s sub : Bs} {i : Nat} (hi : s.length < i + sub.length) (hn : ∀ j, j < i → Lib.occAt s sub j = false) : Lib.contains s sub = false := by
  unfold Lib.contains
  rw [Lib.index_none (fun j hj => ?_)]
  · decide
  · rcases Nat.lt_or_ge j i with h | h
    · exact hn j h
    · cases ho : Lib.occAt s sub j with
      | false => rfl
      | true =>
        rcases Lib.occAt_room ho with h1 | h1
        · omega
        · subst h1
          simp only [List.length_nil] at hi
          omega
end Go.Lq
namespace Go.Proofs.YtdhmloejgoacaaaGreatDoor
open Go.RowKit Go.Bl Go.Lq

def AtAt (w : World) (ad : Addr) (m : At) : Prop :=
  w.cell? ad = some (.string ⟨m.key.toArray⟩) ∧ w.cell? ⟨ad.block, ad.off + 1, none⟩ = some (.string ⟨m.val.toArray⟩)
/-- The slice v holds l. -/
def Ats (w : World) (v : Value) (l : List At) : Prop :=
  ∃ A cap, v = .slice A l.length cap ∧ l.length ≤ 9223372036854775807 ∧ ∀ i (h : i < l.length), ∃ ad, A = some ad ∧ AtAt w (ad.add (i * 2)) l[i]
theorem AtAt.fr {w w' : World} {ad : Addr} {m : At} (h : AtAt w ad m) (hF : Fr [] w w') : AtAt w' ad m := ⟨cell_frS hF h.1 (by simp), cell_frS hF h.2 (by simp)⟩
theorem Ats.fr {w w' : World} {v : Value} {l : List At} (h : Ats w v l) (hF : Fr [] w w') : Ats w' v l := by
  obtain ⟨A, cap, e, hl, hx⟩ := h
  exact ⟨A, cap, e, hl, fun i hi => by obtain ⟨ad, ha, hm⟩ := hx i hi; exact ⟨ad, ha, hm.fr hF⟩⟩
theorem Ats.nil (w : World) : Ats w (.slice none 0 0) [] := ⟨none, 0, rfl, by simp, fun i hi => absurd hi (by simp)⟩
theorem beq_bytes (a b : ByteArray) : (a.toList == b.toList) = decide (a.data.toList = b.data.toList) := by
  rw [ByteArray.toList_eq, ByteArray.toList_eq, Bool.eq_iff_iff]
  simp
def GetRel (w : World) (l : List At) (x : Bs) (iv : Value) (wr : World) : Prop :=
  ∃ k, iv = .int .i64 ((k : Nat) : Int) ∧ k ≤ l.length ∧ Fr [] w wr ∧ getP l x = getP (l.drop k) x
def getV (r : Bs × Bool) : Value := .tuple #[.string ⟨r.1.toArray⟩, .bool r.2]
set_option maxRecDepth 100000 in
set_option maxHeartbeats 800000 in
theorem get_any (l : List At) (v : Value) (x : ByteArray) (w : World) (hl1 : l.length ≤ 2000000) (hM : Ats w v l) :
    Calls Tryz.prog 88 #[v, .string x] w fun e w' => e = .returned (getV (getP l x.data.toList)) ∧ Fr [] w w' := by
  obtain ⟨A, cp, rfl, hl, hx⟩ := hM
  have HX := Lib.hid hx
  obtain ⟨ans, hans⟩ : ∃ ans, getP l x.data.toList = ans := ⟨_, rfl⟩
  rw [hans]
  have HANS := Lib.hid hans
  clear hx hans
  go_enter Tryz.func88, Tryz.ntmps88
  go_wp2_with fail
  go_loopw [10] (fun iv wr => GetRel w l x.data.toList iv wr) (fun iv _ => l.length - (intOf iv).toNat)
  case atStart => exact ⟨0, rfl, by omega, Fr.refl _ _, rfl⟩
  case round =>
    obtain ⟨k, rfl, hk, hF, hw⟩ := hrel
    by_cases hk2 : k < l.length
    · obtain ⟨ad, rfl, m0, m1⟩ := HX.out k hk2
      have c0 := cell_frS hF m0 (by simp)
      have c1 := cell_frS hF m1 (by simp)
      have hsp := World.cell?_spot c0
      clear m0 m1
      obtain ⟨m, hm⟩ : ∃ m, l[k] = m := ⟨_, rfl⟩
      rw [getP_drop hk2] at hw
      rw [hm] at c0 c1 hw
      obtain ⟨K, hK⟩ : ∃ K : ByteArray, ⟨m.key.toArray⟩ = K := ⟨_, rfl⟩
      obtain ⟨V, hV⟩ : ∃ V : ByteArray, ⟨m.val.toArray⟩ = V := ⟨_, rfl⟩
      rw [hK] at c0
      rw [hV] at c1
      have hkl : (k : Int) < (l.length : Int) := by omega
      have hk1 : k + 1 ≤ 4000000 := by omega
      have hbe := beq_bytes K x
      rw [show K.data.toList = m.key by rw [← hK]] at hbe
      have hF2 : Fr [] w (wr.alloc (.cells #[.string K, .string V] 115)) := hF.alloc _
      have HW := Lib.hid (And.intro hw (And.intro hF2 (And.intro hV HANS.out)))
      clear hw hF hF2 hm hK hV
      by_cases he : m.key = x.data.toList
      · rw [decide_eq_true he] at hbe
        have HE := Lib.hid he
        clear he
        go_wp2_with fail
        go_ret2
        refine ⟨?_, HW.out.2.1⟩
        have := HW.out.1
        rw [if_pos HE.out, HW.out.2.2.2] at this
        rw [this]
        unfold getV
        rw [← HW.out.2.2.1]
        rfl
      · rw [decide_eq_false he] at hbe
        have HE := Lib.hid he
        clear he
        have hwk : True → wrap64 ((k : Int) + 1) = (k : Int) + 1 := fun _ => wrap_big (c := k + 1) (by omega)
        go_wp2_with fail
        refine ⟨⟨k + 1, rfl, hk2, HW.out.2.1, ?_⟩, by simp [intOf]; omega⟩
        rw [HW.out.1, if_neg HE.out]
    · obtain rfl : k = l.length := by omega
      have g1 : ¬ (l.length : Int) < (l.length : Int) := by omega
      rw [List.drop_of_length_le (Nat.le_refl _), HANS.out] at hw
      have HW := Lib.hid (And.intro hw hF)
      clear hw hF
      go_wp2_with fail
      go_ret2
      exact ⟨by rw [HW.out.1]; rfl, HW.out.2⟩
set_option maxRecDepth 100000 in
set_option maxHeartbeats 800000 in
theorem getR_any (l : List At) (v : Value) (x : ByteArray) (w : World) (hl1 : l.length ≤ 2000000) (hM : Ats w v l) :
    Calls Tryz.prog 58 #[v, .string x] w fun e w' => e = .returned (getV (getP l x.data.toList)) ∧ Fr [] w w' := by
  obtain ⟨A, cp, rfl, hl, hx⟩ := hM
  have HX := Lib.hid hx
  obtain ⟨ans, hans⟩ : ∃ ans, getP l x.data.toList = ans := ⟨_, rfl⟩
  rw [hans]
  have HANS := Lib.hid hans
  clear hx hans
  go_enter Tryz.func58, Tryz.ntmps58
  go_wp2_with fail
  go_loopw [6] (fun iv wr => GetRel w l x.data.toList iv wr) (fun iv _ => l.length - (intOf iv).toNat)
  case atStart => exact ⟨0, rfl, by omega, Fr.refl _ _, rfl⟩
  case round =>
    obtain ⟨k, rfl, hk, hF, hw⟩ := hrel
    by_cases hk2 : k < l.length
    · obtain ⟨ad, rfl, m0, m1⟩ := HX.out k hk2
      have c0 := cell_frS hF m0 (by simp)
      have c1 := cell_frS hF m1 (by simp)
      have hsp := World.cell?_spot c0
      clear m0 m1
      obtain ⟨m, hm⟩ : ∃ m, l[k] = m := ⟨_, rfl⟩
      rw [getP_drop hk2] at hw
      rw [hm] at c0 c1 hw
      obtain ⟨K, hK⟩ : ∃ K : ByteArray, ⟨m.key.toArray⟩ = K := ⟨_, rfl⟩
      obtain ⟨V, hV⟩ : ∃ V : ByteArray, ⟨m.val.toArray⟩ = V := ⟨_, rfl⟩
      rw [hK] at c0
      rw [hV] at c1
      have hkl : (k : Int) < (l.length : Int) := by omega
      have hk1 : k + 1 ≤ 4000000 := by omega
      have hbe := beq_bytes K x
      rw [show K.data.toList = m.key by rw [← hK]] at hbe
      have HW := Lib.hid (And.intro hw (And.intro hF (And.intro hV HANS.out)))
      clear hw hF hm hK hV
      by_cases he : m.key = x.data.toList
      · rw [decide_eq_true he] at hbe
        have HE := Lib.hid he
        clear he
        go_wp2_with fail
        go_ret2
        refine ⟨?_, HW.out.2.1⟩
        have := HW.out.1
        rw [if_pos HE.out, HW.out.2.2.2] at this
        rw [this]
        unfold getV
        rw [← HW.out.2.2.1]
        rfl
      · rw [decide_eq_false he] at hbe
        have HE := Lib.hid he
        clear he
        have hwk : True → wrap64 ((k : Int) + 1) = (k : Int) + 1 := fun _ => wrap_big (c := k + 1) (by omega)
        go_wp2_with fail
        refine ⟨⟨k + 1, rfl, hk2, HW.out.2.1, ?_⟩, by simp [intOf]; omega⟩
        rw [HW.out.1, if_neg HE.out]
    · obtain rfl : k = l.length := by omega
      have g1 : ¬ (l.length : Int) < (l.length : Int) := by omega
      rw [List.drop_of_length_le (Nat.le_refl _), HANS.out] at hw
      have HW := Lib.hid (And.intro hw hF)
      clear hw hF
      go_wp2_with fail
      go_ret2
      exact ⟨by rw [HW.out.1]; rfl, HW.out.2⟩
theorem ext_bytes (s : ByteArray) (k n : Nat) : (s.extract k (k + n)).data.toList = (s.data.toList.drop k).take n := by
  rw [ByteArray.data_extract, Array.toList_extract]
  simp
def HasRel (s p : ByteArray) (w : World) (iv : Value) (wr : World) : Prop :=
  ∃ k, iv = .int .i64 ((k : Nat) : Int) ∧ k ≤ s.size + 1 ∧ Fr [] w wr ∧ ∀ j, j < k → Lib.occAt s.data.toList p.data.toList j = false
set_option maxRecDepth 100000 in
set_option maxHeartbeats 800000 in
theorem has_any' (s p : ByteArray) (w : World) (hs : s.size ≤ 2000000) (hp : p.size ≤ 2000000) :
    Calls Tryz.prog 90 #[.string s, .string p] w fun e w' => e = .returned (.bool (Lib.contains s.data.toList p.data.toList)) ∧ Fr [] w w' := by
  obtain ⟨ans, hans⟩ : ∃ ans, Lib.contains s.data.toList p.data.toList = ans := ⟨_, rfl⟩
  rw [hans]
  have HANS := Lib.hid hans
  clear hans
  have HLS := Lib.hid (And.intro (bytes_len s) (bytes_len p))
  go_enter Tryz.func90, Tryz.ntmps90
  go_wp2_with fail
  go_loopw [5] (fun iv wr => HasRel s p w iv wr) (fun iv _ => s.size + 2 - (intOf iv).toNat)
  case atStart => exact ⟨0, rfl, by omega, Fr.refl _ _, fun j hj => absurd hj (by omega)⟩
  case round =>
    obtain ⟨k, rfl, hk, hF, hn⟩ := hrel
    have HN := Lib.hid (And.intro hn hF)
    clear hn hF
    by_cases hk2 : k + p.size ≤ s.size
    · have g1 : (k : Int) + (p.size : Int) ≤ (s.size : Int) := by omega
      have g2 : (0 : Int) ≤ (k : Int) ∧ (k : Int) ≤ (k : Int) + (p.size : Int) ∧ (k : Int) + (p.size : Int) ≤ (s.size : Int) := by omega
      have hbe := beq_bytes (s.extract k (k + p.size)) p
      rw [ext_bytes] at hbe
      by_cases he : (s.data.toList.drop k).take p.size = p.data.toList
      · rw [decide_eq_true he] at hbe
        have HE := Lib.hid he
        clear he
        go_wp2_with fail
        go_ret
        refine ⟨?_, HN.out.2⟩
        rw [← HANS.out, contains_yes (i := k) (by rw [HLS.out.1, HLS.out.2]; exact hk2) (by rw [HLS.out.2]; exact HE.out) HN.out.1]
        rfl
      · rw [decide_eq_false he] at hbe
        have HE := Lib.hid he
        clear he
        go_wp2_with fail
        refine ⟨⟨k + 1, rfl, by omega, HN.out.2, fun j hj => ?_⟩, by simp [intOf]; omega⟩
        rcases (by omega : j < k ∨ j = k) with h | h
        · exact HN.out.1 j h
        · subst h
          rw [occ_iff (by rw [HLS.out.1, HLS.out.2]; exact hk2), HLS.out.2, decide_eq_false HE.out]
    · have g1 : ¬ (k : Int) + (p.size : Int) ≤ (s.size : Int) := by omega
      go_wp2_with fail
      go_ret
      refine ⟨?_, HN.out.2⟩
      rw [← HANS.out, contains_no (i := k) (by rw [HLS.out.1, HLS.out.2]; omega) HN.out.1]
      rfl
end Go.Proofs.YtdhmloejgoacaaaGreatDoor
namespace Go.Proofs.YtdhmloejgoacaaaGreatDoor
open Go.RowKit Go.Bl Go.Lq

/-- The library's own variable: how long a text it looks through at once. -/
def GX (w : World) : Prop := ∃ m, w.cell? ⟨0, 0, none⟩ = some (.int .i64 m)
theorem GX.fr {w w' : World} (h : GX w) (hF : Fr [] w w') : GX w' := by
  obtain ⟨m, hm⟩ := h
  exact ⟨m, cell_frS hF hm (by simp)⟩
theorem contains_any (s p : ByteArray) (w : World) (hs : s.size ≤ 2000000) (hX : GX w) : Calls Tryz.prog 56 #[.string s, .string p] w fun e w' => e = .returned (.bool (Lib.contains s.data.toList p.data.toList)) ∧ w' = w := by
  obtain ⟨m, hm⟩ := hX
  exact Tryz.strings_Contains s p m w (by omega) hm
def AtsShort (l : List At) : Prop := l.length ≤ 2000000 ∧ ∀ a ∈ l, a.key.length + a.val.length ≤ 2000000
theorem getP_short {l : List At} (h : ∀ a ∈ l, a.key.length + a.val.length ≤ 2000000) (x : Bs) : (getP l x).1.length ≤ 2000000 := by
  induction l with
  | nil => simp [getP]
  | cons a l ih =>
    unfold getP
    split
    · have := h a (by simp)
      simp only
      omega
    · exact ih (fun b hb => h b (by simp [hb]))
def MtsShort (l : List Mt) : Prop := l.length ≤ 2000000 ∧ ∀ m ∈ l, m.key.length + m.val.length ≤ 2000000
theorem holdsP_1 {m : Mt} {v : Bs} (h : m.op = 1) : holdsP m v = decide (v = m.val) := by unfold holdsP; rw [if_pos h]
theorem holdsP_2 {m : Mt} {v : Bs} (h : m.op = 2) : holdsP m v = !decide (v = m.val) := by unfold holdsP; rw [if_neg (by omega), if_pos h]
theorem holdsP_3 {m : Mt} {v : Bs} (h : m.op = 3) : holdsP m v = Lib.contains v m.val := by unfold holdsP; rw [if_neg (by omega), if_neg (by omega), if_pos h]
theorem holdsP_4 {m : Mt} {v : Bs} (h : m.op = 4) : holdsP m v = !Lib.contains v m.val := by unfold holdsP; rw [if_neg (by omega), if_neg (by omega), if_neg (by omega), if_pos h]
theorem holdsP_0 {m : Mt} {v : Bs} (h1 : ¬ m.op = 1) (h2 : ¬ m.op = 2) (h3 : ¬ m.op = 3) (h4 : ¬ m.op = 4) : holdsP m v = false := by unfold holdsP; rw [if_neg h1, if_neg h2, if_neg h3, if_neg h4]
set_option maxRecDepth 100000 in
set_option maxHeartbeats 800000 in
theorem holds_any (m : Mt) (x : ByteArray) (w : World) (hx : x.size ≤ 2000000) (hm : m.val.length ≤ 2000000) :
    Calls Tryz.prog 59 #[.agg #[.int .i64 m.op, .string ⟨m.key.toArray⟩, .string ⟨m.val.toArray⟩], .string x] w fun e w' => e = .returned (.bool (holdsP m x.data.toList)) ∧ Fr [] w w' := by
  obtain ⟨op, hop⟩ : ∃ op, m.op = op := ⟨_, rfl⟩
  obtain ⟨K, hK⟩ : ∃ K : ByteArray, ⟨m.key.toArray⟩ = K := ⟨_, rfl⟩
  obtain ⟨V, hV⟩ : ∃ V : ByteArray, ⟨m.val.toArray⟩ = V := ⟨_, rfl⟩
  have sV : V.size ≤ 2000000 := by rw [← hV, bs_size]; exact hm
  have hVd : V.data.toList = m.val := by rw [← hV]
  have hh := has_any' x V (w.alloc (.cells #[.int .i64 op, .string K, .string V] 74)) hx sV
  have hbe := beq_bytes x V
  rw [hVd] at hbe hh
  rw [hop, hK, hV]
  have hF0 : Fr [] w (w.alloc (.cells #[.int .i64 op, .string K, .string V] 74)) := (Fr.refl _ _).alloc _
  have HF := Lib.hid hF0
  obtain ⟨bh, hbh⟩ : ∃ b, Lib.contains x.data.toList m.val = b := ⟨_, rfl⟩
  obtain ⟨be, hbq⟩ : ∃ b, decide (x.data.toList = m.val) = b := ⟨_, rfl⟩
  rw [hbh] at hh
  rw [hbq] at hbe
  clear hm hK hV hVd hF0
  by_cases h1 : op = 1
  · rw [holdsP_1 (by rw [hop, h1]), hbq]
    subst h1
    clear hop hbh hbq hh
    go_enter Tryz.func59, Tryz.ntmps59
    go_wp2_with fail
    go_ret
    exact ⟨rfl, HF.out⟩
  · by_cases h2 : op = 2
    · rw [holdsP_2 (by rw [hop, h2]), hbq]
      subst h2
      clear hop hbh hbq hh
      go_enter Tryz.func59, Tryz.ntmps59
      go_wp2_with fail
      go_ret
      exact ⟨rfl, HF.out⟩
    · by_cases h3 : op = 3
      · rw [holdsP_3 (by rw [hop, h3]), hbh]
        subst h3
        clear hop hbh hbq hbe
        go_enter Tryz.func59, Tryz.ntmps59
        go_wp2_with fail
        refine hh.mono ?_
        rintro e w1 ⟨rfl, hF1⟩
        go_wp2_with fail
        go_ret
        exact ⟨rfl, HF.out.trans hF1⟩
      · by_cases h4 : op = 4
        · rw [holdsP_4 (by rw [hop, h4]), hbh]
          subst h4
          clear hop hbh hbq hbe
          go_enter Tryz.func59, Tryz.ntmps59
          go_wp2_with fail
          refine hh.mono ?_
          rintro e w1 ⟨rfl, hF1⟩
          go_wp2_with fail
          go_ret
          exact ⟨rfl, HF.out.trans hF1⟩
        · rw [holdsP_0 (by rw [hop]; exact h1) (by rw [hop]; exact h2) (by rw [hop]; exact h3) (by rw [hop]; exact h4)]
          have q1 : (op == 1) = false := by simpa using h1
          have q2 : (op == 2) = false := by simpa using h2
          have q3 : (op == 3) = false := by simpa using h3
          have q4 : (op == 4) = false := by simpa using h4
          clear hop hbh hbq hbe hh h1 h2 h3 h4
          go_enter Tryz.func59, Tryz.ntmps59
          go_wp2_with fail
          go_ret
          exact ⟨rfl, HF.out⟩
def FMRel (w : World) (l : List At) (ms : List Mt) (iv : Value) (wr : World) : Prop :=
  ∃ k, iv = .int .i64 ((k : Nat) : Int) ∧ k ≤ ms.length ∧ Fr [] w wr ∧ fitsM l ms = fitsM l (ms.drop k)
set_option maxRecDepth 100000 in
set_option maxHeartbeats 800000 in
theorem fitsR_any (l : List At) (ms : List Mt) (v v2 : Value) (w : World) (hA : Ats w v l) (hM : Mts w v2 ms) (hls : AtsShort l) (hms : MtsShort ms) :
    Calls Tryz.prog 57 #[v, v2] w fun e w' => e = .returned (.bool (fitsM l ms)) ∧ Fr [] w w' := by
  have HA := Lib.hid hA
  obtain ⟨B, bp, rfl, z1, z2⟩ := hA
  clear z1 z2
  obtain ⟨A, cp, rfl, hl, hx⟩ := hM
  have HX := Lib.hid hx
  have hlen := hms.1
  obtain ⟨ans, hans⟩ : ∃ ans, fitsM l ms = ans := ⟨_, rfl⟩
  rw [hans]
  have HANS := Lib.hid hans
  clear hx hans
  go_enter Tryz.func57, Tryz.ntmps57
  go_wp2_with fail
  go_loopw [5] (fun iv wr => FMRel w l ms iv wr) (fun iv _ => ms.length - (intOf iv).toNat)
  case atStart => exact ⟨0, rfl, by omega, Fr.refl _ _, rfl⟩
  case round =>
    obtain ⟨k, rfl, hk, hF, hw⟩ := hrel
    by_cases hk2 : k < ms.length
    · obtain ⟨ad, rfl, m0, m1, m2⟩ := HX.out k hk2
      have c0 := cell_frS hF m0 (by simp)
      have c1 := cell_frS hF m1 (by simp)
      have c2 := cell_frS hF m2 (by simp)
      have hsp := World.cell?_spot c0
      clear m0 m1 m2
      obtain ⟨m, hm⟩ : ∃ m, ms[k] = m := ⟨_, rfl⟩
      rw [fitsM_drop hk2] at hw
      rw [hm] at c0 c1 c2 hw
      have hmv : m.val.length ≤ 2000000 := by have := hms.2 m (by rw [← hm]; exact List.getElem_mem _); omega
      have hkl : (k : Int) < (ms.length : Int) := by omega
      have hk1 : k + 1 ≤ 4000000 := by omega
      obtain ⟨K, hK⟩ : ∃ K : ByteArray, ⟨m.key.toArray⟩ = K := ⟨_, rfl⟩
      have hg := getR_any l _ K wr hls.1 (HA.out.fr hF)
      rw [show K.data.toList = m.key by rw [← hK]] at hg
      have hgs := getP_short hls.2 m.key
      obtain ⟨⟨gv, gb⟩, hgp⟩ : ∃ r, getP l m.key = r := ⟨_, rfl⟩
      rw [hgp] at hg hgs hw
      obtain ⟨X, hX⟩ : ∃ X : ByteArray, ⟨gv.toArray⟩ = X := ⟨_, rfl⟩
      have hh := fun w' => holds_any m X w' (by rw [← hX, bs_size]; exact hgs) hmv
      rw [show X.data.toList = gv by rw [← hX]] at hh
      unfold getV at hg
      dsimp only at hg hw hgs
      rw [hX] at hg
      obtain ⟨bh, hbh⟩ : ∃ b, holdsP m gv = b := ⟨_, rfl⟩
      rw [hbh] at hh hw
      rw [hK] at c1 hh
      obtain ⟨V, hV⟩ : ∃ V : ByteArray, ⟨m.val.toArray⟩ = V := ⟨_, rfl⟩
      rw [hV] at c2 hh
      have HH := Lib.hid hh
      have HW := Lib.hid (And.intro hw hF)
      clear hw hF hm hK hV hX hbh hh hgp hgs
      go_wp2_with fail
      refine hg.mono ?_
      rintro e w1 ⟨rfl, hF1⟩
      have d0 := cell_frS hF1 c0 (by simp)
      have d1 := cell_frS hF1 c1 (by simp)
      have d2 := cell_frS hF1 c2 (by simp)
      have HF1 := Lib.hid hF1
      clear hF1 hg c0 c1 c2
      go_wp2_with fail
      refine (HH.out _).mono ?_
      rintro e w2 ⟨rfl, hF2⟩
      have hF3 := (HW.out.2.trans HF1.out).trans hF2
      cases bh with
      | false =>
        go_wp2_with fail
        go_ret
        refine ⟨?_, hF3⟩
        rw [← HANS.out, HW.out.1]
        rfl
      | true =>
        have hwk : True → wrap64 ((k : Int) + 1) = (k : Int) + 1 := fun _ => wrap_big (c := k + 1) (by omega)
        go_wp2_with fail
        refine ⟨⟨k + 1, rfl, hk2, hF3, ?_⟩, by simp [intOf]; omega⟩
        rw [HW.out.1]
        rfl
    · obtain rfl : k = ms.length := by omega
      have g1 : ¬ (ms.length : Int) < (ms.length : Int) := by omega
      rw [List.drop_of_length_le (Nat.le_refl _), HANS.out] at hw
      have HW := Lib.hid (And.intro hw hF)
      clear hw hF
      go_wp2_with fail
      go_ret
      exact ⟨by rw [HW.out.1]; rfl, HW.out.2⟩
end Go.Proofs.YtdhmloejgoacaaaGreatDoor
namespace Go.Proofs.YtdhmloejgoacaaaGreatDoor
open Go.RowKit Go.Bl Go.Lq

set_option maxRecDepth 100000 in
set_option maxHeartbeats 1600000 in
theorem fitsA_any (l : List At) (ms : List Mt) (v v2 : Value) (w : World) (hX0 : GX w) (hA : Ats w v l) (hM : Mts w v2 ms) (hls : AtsShort l) (hms : MtsShort ms) :
    Calls Tryz.prog 55 #[v, v2] w fun e w' => e = .returned (.bool (fitsM l ms)) ∧ Fr [] w w' := by
  have HA := Lib.hid hA
  obtain ⟨B, bp, rfl, z1, z2⟩ := hA
  clear z1 z2
  obtain ⟨A, cp, rfl, hl, hx⟩ := hM
  have HX := Lib.hid hx
  have HX0 := Lib.hid hX0
  have hlen := hms.1
  obtain ⟨ans, hans⟩ : ∃ ans, fitsM l ms = ans := ⟨_, rfl⟩
  rw [hans]
  have HANS := Lib.hid hans
  clear hx hans hX0
  go_enter Tryz.func55, Tryz.ntmps55
  go_wp2_with fail
  go_loopw [12] (fun iv wr => FMRel w l ms iv wr) (fun iv _ => ms.length - (intOf iv).toNat)
  case atStart => exact ⟨0, rfl, by omega, Fr.refl _ _, rfl⟩
  case round =>
    obtain ⟨k, rfl, hk, hF, hw⟩ := hrel
    by_cases hk2 : k < ms.length
    · obtain ⟨ad, rfl, m0, m1, m2⟩ := HX.out k hk2
      have c0 := cell_frS hF m0 (by simp)
      have c1 := cell_frS hF m1 (by simp)
      have c2 := cell_frS hF m2 (by simp)
      have hsp := World.cell?_spot c0
      clear m0 m1 m2
      obtain ⟨m, hm⟩ : ∃ m, ms[k] = m := ⟨_, rfl⟩
      rw [fitsM_drop hk2] at hw
      rw [hm] at c0 c1 c2 hw
      have hmv : m.val.length ≤ 2000000 := by have := hms.2 m (by rw [← hm]; exact List.getElem_mem _); omega
      have hkl : (k : Int) < (ms.length : Int) := by omega
      have hk1 : k + 1 ≤ 4000000 := by omega
      obtain ⟨op, hop⟩ : ∃ op, m.op = op := ⟨_, rfl⟩
      obtain ⟨K, hK⟩ : ∃ K : ByteArray, ⟨m.key.toArray⟩ = K := ⟨_, rfl⟩
      obtain ⟨V, hV⟩ : ∃ V : ByteArray, ⟨m.val.toArray⟩ = V := ⟨_, rfl⟩
      have sV : V.size ≤ 2000000 := by rw [← hV, bs_size]; exact hmv
      have hVd : V.data.toList = m.val := by rw [← hV]
      rw [hop] at c0
      rw [hK] at c1
      rw [hV] at c2
      obtain ⟨WE, hWE⟩ : ∃ WE, wr.alloc (.cells #[.int .i64 op, .string K, .string V] 74) = WE := ⟨_, rfl⟩
      have hFE : Fr [] wr WE := by rw [← hWE]; exact (Fr.refl _ _).alloc _
      have hEB : WE.heap[wr.heap.size]? = some (.cells #[.int .i64 op, .string K, .string V] 74 (0, 0)) := by rw [← hWE]; exact heap_alloc wr _
      have x1 := cell_of hEB 1
      simp only [List.getElem?_toArray, List.getElem?_cons_zero, List.getElem?_cons_succ] at x1
      have hg := get_any l _ K WE hls.1 ((HA.out.fr hF).fr hFE)
      rw [show K.data.toList = m.key by rw [← hK]] at hg
      have hgs := getP_short hls.2 m.key
      obtain ⟨⟨gv, gb⟩, hgp⟩ : ∃ r, getP l m.key = r := ⟨_, rfl⟩
      rw [hgp] at hg hgs hw
      obtain ⟨X, hX⟩ : ∃ X : ByteArray, ⟨gv.toArray⟩ = X := ⟨_, rfl⟩
      have sX : X.size ≤ 2000000 := by rw [← hX, bs_size]; exact hgs
      have hXd : X.data.toList = gv := by rw [← hX]
      unfold getV at hg
      dsimp only at hg hw hgs
      rw [hX] at hg
      obtain ⟨bh, hbh⟩ : ∃ b, holdsP m gv = b := ⟨_, rfl⟩
      rw [hbh] at hw
      have hbe := beq_bytes X V
      rw [hVd, hXd] at hbe
      have hcn := fun w' (hX : GX w') => contains_any X V w' sX hX
      rw [hVd, hXd] at hcn
      obtain ⟨bc, hbc⟩ : ∃ b, Lib.contains gv m.val = b := ⟨_, rfl⟩
      obtain ⟨be, hbq⟩ : ∃ b, decide (gv = m.val) = b := ⟨_, rfl⟩
      rw [hbc] at hcn
      rw [hbq] at hbe
      have HCN := Lib.hid hcn
      have HW := Lib.hid (And.intro hw (And.intro hF (And.intro hFE (And.intro hEB (And.intro hbh (And.intro hbc (And.intro hbq hop)))))))
      clear hw hF hm hK hV hX hbh hgp hgs hcn hbc hbq hVd hXd hFE hEB hop
      go_wp2_with fail
      (try rw [hWE])
      go_wp2_with fail
      (try rw [hWE])
      refine hg.mono ?_
      rintro e w1 ⟨rfl, hF1⟩
      have hb := hF1.obj HW.out.2.2.2.1 (by simp)
      have d0 := cell_of hb 0
      have d1 := cell_of hb 1
      have d2 := cell_of hb 2
      simp only [List.getElem?_toArray, List.getElem?_cons_zero, List.getElem?_cons_succ] at d0 d1 d2
      have hF2 := (HW.out.2.1.trans HW.out.2.2.1).trans hF1
      have HF2 := Lib.hid hF2
      have hc1 := HCN.out w1 (HX0.out.fr hF2)
      clear hF1 hF2 hb hg c0 c1 c2 x1 hWE
      go_upto_block 2 with fail
      go_cut [9] (fun s9 wx => s9 = .bool bh ∧ wx = w1)
      case first =>
        by_cases h1 : op = 1
        · subst h1
          go_wp2_with fail
          go_meet
          exact ⟨by rw [← HW.out.2.2.2.2.1, holdsP_1 HW.out.2.2.2.2.2.2.2, HW.out.2.2.2.2.2.2.1], rfl⟩
        · by_cases h2 : op = 2
          · subst h2
            go_wp2_with fail
            go_meet
            exact ⟨by rw [← HW.out.2.2.2.2.1, holdsP_2 HW.out.2.2.2.2.2.2.2, HW.out.2.2.2.2.2.2.1], rfl⟩
          · by_cases h3 : op = 3
            · subst h3
              go_wp2_with fail
              refine hc1.mono ?_
              rintro e w2 ⟨rfl, rfl⟩
              go_wp2_with fail
              go_meet
              exact ⟨by rw [← HW.out.2.2.2.2.1, holdsP_3 HW.out.2.2.2.2.2.2.2, HW.out.2.2.2.2.2.1], rfl⟩
            · by_cases h4 : op = 4
              · subst h4
                go_wp2_with fail
                refine hc1.mono ?_
                rintro e w2 ⟨rfl, rfl⟩
                go_wp2_with fail
                go_meet
                exact ⟨by rw [← HW.out.2.2.2.2.1, holdsP_4 HW.out.2.2.2.2.2.2.2, HW.out.2.2.2.2.2.1], rfl⟩
              · have q1 : (op == 1) = false := by simpa using h1
                have q2 : (op == 2) = false := by simpa using h2
                have q3 : (op == 3) = false := by simpa using h3
                have q4 : (op == 4) = false := by simpa using h4
                have HNO := Lib.hid (And.intro h1 (And.intro h2 (And.intro h3 h4)))
                clear h1 h2 h3 h4
                go_wp2_with fail
                go_meet
                have hop := HW.out.2.2.2.2.2.2.2
                exact ⟨by rw [← HW.out.2.2.2.2.1, holdsP_0 (by rw [hop]; exact HNO.out.1) (by rw [hop]; exact HNO.out.2.1) (by rw [hop]; exact HNO.out.2.2.1) (by rw [hop]; exact HNO.out.2.2.2)], rfl⟩
      case rest =>
        obtain ⟨rfl, rfl⟩ := hcut
        cases bh with
        | false =>
          go_wp2_with fail
          go_ret
          refine ⟨?_, HF2.out⟩
          rw [← HANS.out, HW.out.1]
          rfl
        | true =>
          have hwk : True → wrap64 ((k : Int) + 1) = (k : Int) + 1 := fun _ => wrap_big (c := k + 1) (by omega)
          go_wp2_with fail
          refine ⟨⟨k + 1, rfl, hk2, HF2.out, ?_⟩, by simp [intOf]; omega⟩
          rw [HW.out.1]
          rfl
    · obtain rfl : k = ms.length := by omega
      have g1 : ¬ (ms.length : Int) < (ms.length : Int) := by omega
      rw [List.drop_of_length_le (Nat.le_refl _), HANS.out] at hw
      have HW := Lib.hid (And.intro hw hF)
      clear hw hF
      go_wp2_with fail
      go_ret
      exact ⟨by rw [HW.out.1]; rfl, HW.out.2⟩
end Go.Proofs.YtdhmloejgoacaaaGreatDoor
namespace Go.Proofs.YtdhmloejgoacaaaGreatDoor
open Go.RowKit Go.Bl Go.Lq

set_option maxRecDepth 100000 in
theorem neq77 (k1 k2 v1 v2 : ByteArray) (w : World) : (binOp .neq 115 (.agg #[.string k1, .string v1]) (.agg #[.string k2, .string v2])).run Tryz.prog w = .ok (.bool (!((k1.toList == k2.toList) && (v1.toList == v2.toList)))) w := by
  rw [run_neq_struct, run_equalIn_struct w 9999 115 _ _ (by kernel_rfl) (by kernel_rfl)]
  obtain ⟨fs, hfs⟩ : ∃ fs, (Tryz.prog.fieldsOf 115).toList = fs := ⟨_, rfl⟩
  have hu := Tryz.underlying115
  unfold Program.fieldsOf at hfs ⊢
  simp [hu, Op.eqFields, go_sem]
  by_cases h2 : k1.toList = k2.toList
  · by_cases h3 : v1.toList = v2.toList
    · simp [h2, h3]
    · simp [h2, h3]
  · simp [h2]
theorem at_neq (x y : At) (w : World) : (binOp .neq 115 (.agg #[.string ⟨x.key.toArray⟩, .string ⟨x.val.toArray⟩]) (.agg #[.string ⟨y.key.toArray⟩, .string ⟨y.val.toArray⟩])).run Tryz.prog w = .ok (.bool (!decide (x = y))) w := by
  rw [neq77]
  congr 3
  obtain ⟨b, c⟩ := x
  obtain ⟨e, f⟩ := y
  simp only [ByteArray.toList_eq]
  rw [Bool.eq_iff_iff]
  simp
def SARel (w : World) (l1 l2 : List At) (iv : Value) (wr : World) : Prop :=
  ∃ k n, iv = .int .i64 ((k : Nat) : Int) ∧ k ≤ l1.length ∧ wr = w.drewN n ∧ l1.take k = l2.take k
set_option maxRecDepth 100000 in
set_option maxHeartbeats 400000 in
theorem sameA_any (l1 l2 : List At) (v1 v2 : Value) (w : World) (h1 : Ats w v1 l1) (h2 : Ats w v2 l2) (hs : l1.length ≤ 2000000) :
    Calls Tryz.prog 60 #[v1, v2] w fun e w' => e = .returned (.bool (decide (l1 = l2))) ∧ Fr [] w w' := by
  obtain ⟨A1, p1, rfl, hl1, hx1⟩ := h1
  obtain ⟨A2, p2, rfl, hl2, hx2⟩ := h2
  have HX1 := Lib.hid hx1
  have HX2 := Lib.hid hx2
  clear hx1 hx2
  by_cases hne : l1.length = l2.length
  · obtain ⟨ans, hans⟩ : ∃ ans, decide (l1 = l2) = ans := ⟨_, rfl⟩
    rw [hans]
    have HANS := Lib.hid hans
    have q1 : ((l1.length : Int) == (l2.length : Int)) = true := by rw [hne]; simp
    have HNE := Lib.hid hne
    clear hans
    rw [← hne]
    clear hne q1
    go_enter Tryz.func60, Tryz.ntmps60
    go_wp2_with fail
    go_loopw [5] (fun iv wr => SARel w l1 l2 iv wr) (fun iv _ => l1.length - (intOf iv).toNat)
    case atStart => exact ⟨0, 0, rfl, by omega, rfl, rfl⟩
    case round =>
      obtain ⟨k, n, rfl, hk, rfl, htk⟩ := hrel
      by_cases hk2 : k < l1.length
      · have hk3 : k < l2.length := by rw [← HNE.out]; exact hk2
        obtain ⟨a1, rfl, c0, c1⟩ := HX1.out k hk2
        obtain ⟨a2, rfl, d0, d1⟩ := HX2.out k hk3
        have hsp := World.cell?_spot c0
        have hsp2 := World.cell?_spot d0
        obtain ⟨x, hx⟩ : ∃ x, l1[k] = x := ⟨_, rfl⟩
        obtain ⟨y, hy⟩ : ∃ y, l2[k] = y := ⟨_, rfl⟩
        rw [hx] at c0 c1
        rw [hy] at d0 d1
        have g1 : (k : Int) < (l1.length : Int) := by omega
        have g2 : (0 : Int) ≤ (k : Int) ∧ (k : Int) < (l1.length : Int) := by omega
        have hk1 : k + 1 ≤ 2000001 := by omega
        have HT := Lib.hid (And.intro htk (And.intro hx hy))
        clear htk hx hy
        have hnq := at_neq x y
        obtain ⟨bb, hbb⟩ : ∃ bb, decide (x = y) = bb := ⟨_, rfl⟩
        rw [hbb] at hnq
        have HBB := Lib.hid hbb
        clear hbb
        have hwk : True → wrap64 ((k : Int) + 1) = (k : Int) + 1 := fun _ => wrap_big (c := k + 1) (by omega)
        go_wp2_with fail
        go_quiet (fail)
        cases bb with
        | false =>
          go_wp2_with fail
          go_ret
          refine ⟨?_, (((Fr.refl _ _).drewN _).drewN _)⟩
          have hxy : x ≠ y := of_decide_eq_false HBB.out
          rw [← HANS.out, decide_eq_false (fun e => by subst e; exact hxy (by rw [← HT.out.2.1, ← HT.out.2.2]))]
          rfl
        | true =>
          have hxy : x = y := of_decide_eq_true HBB.out
          have HXY := Lib.hid hxy
          clear hxy
          go_wp2_with fail
          refine ⟨⟨k + 1, _, rfl, hk2, rfl, ?_⟩, by simp [intOf]; omega⟩
          rw [List.take_add_one, List.take_add_one, List.getElem?_eq_getElem hk2, List.getElem?_eq_getElem hk3, HT.out.1, HT.out.2.1, HT.out.2.2, HXY.out]
      · obtain rfl : k = l1.length := by omega
        have g1 : ¬ (l1.length : Int) < (l1.length : Int) := by omega
        rw [List.take_of_length_le (Nat.le_refl _), HNE.out, List.take_of_length_le (Nat.le_refl _)] at htk
        have HT := Lib.hid htk
        clear htk
        go_wp2_with fail
        go_ret
        refine ⟨?_, (Fr.refl _ _).drewN _⟩
        rw [← HANS.out, decide_eq_true HT.out]
        rfl
  · rw [decide_eq_false (fun e => hne (by rw [e]))]
    have q1 : ((l1.length : Int) == (l2.length : Int)) = false := beq_eq_false_iff_ne.2 (by omega)
    go_enter Tryz.func60, Tryz.ntmps60
    go_wp2
    go_ret
    exact ⟨rfl, Fr.refl _ _⟩

structure Rc where
  kind : Int
  name : ByteArray
  attrs : List At
  t : Int
  tt : Int
  v : Int
  level : Int
  text : ByteArray
  trace : Bs
  id : Bs
  parent : Bs
def rcList (a : Value) (r : Rc) : List Value := .int .i64 r.kind :: .string r.name :: a :: .int .i64 r.t :: .int .i64 r.tt :: .int .i64 r.v :: .int .i64 r.level :: .string r.text :: (Lib.byteCells r.trace ++ (Lib.byteCells r.id ++ Lib.byteCells r.parent))
/-- A record by value. -/
def RecV (w : World) (v : Value) (r : Rc) : Prop := ∃ A cap, v = .agg (rcList (.slice A r.attrs.length cap) r).toArray ∧ Ats w (.slice A r.attrs.length cap) r.attrs ∧ r.trace.length = 16 ∧ r.id.length = 8 ∧ r.parent.length = 8
theorem RecV.fr {w w' : World} {v : Value} {r : Rc} (h : RecV w v r) (hF : Fr [] w w') : RecV w' v r := by
  obtain ⟨A, cap, e, ha, h1, h2, h3⟩ := h
  exact ⟨A, cap, e, ha.fr hF, h1, h2, h3⟩
theorem rcList_len (a : Value) {r : Rc} (h1 : r.trace.length = 16) (h2 : r.id.length = 8) (h3 : r.parent.length = 8) : (rcList a r).length = 40 := by
  simp [rcList, Lib.byteCells_length, h1, h2, h3]
end Go.Proofs.YtdhmloejgoacaaaGreatDoor
namespace Go.Proofs.YtdhmloejgoacaaaGreatDoor
open Go.RowKit Go.Bl Go.Lq

theorem mts_one {w : World} {b : Nat} {op : Int} {K V : ByteArray} {m : Mt} (h : w.heap[b]? = some (.cells #[.int .i64 op, .string K, .string V] 74 (0, 0))) (h1 : m.op = op) (h2 : ByteArray.mk m.key.toArray = K) (h3 : ByteArray.mk m.val.toArray = V) : Mts w (.slice (some ⟨b, 0, none⟩) 1 1) [m] :=
  ⟨_, _, rfl, by simp, fun i hi => ⟨_, rfl, by
    obtain rfl : i = 0 := by simpa using hi
    refine ⟨?_, ?_, ?_⟩
    · rw [add_at', cell_of h, ← h1]; rfl
    · rw [add_at', cell_of h, ← h2]; rfl
    · rw [add_at', cell_of h, ← h3]; rfl⟩⟩
theorem rc_cells {w : World} {b : Nat} {a : Value} {r : Rc} {T : TypeId} (h : w.heap[b]? = some (.cells (rcList a r).toArray T (0, 0))) :
    w.cell? ⟨b, 0, none⟩ = some (.int .i64 r.kind) ∧ w.cell? ⟨b, 2, none⟩ = some a ∧ w.cell? ⟨b, 6, none⟩ = some (.int .i64 r.level) ∧ w.cell? ⟨b, 7, none⟩ = some (.string r.text) :=
  ⟨cell_of h 0, cell_of h 2, cell_of h 6, cell_of h 7⟩
def FQRel (w : World) (l : List At) (t : Bs) (ms : List Mt) (iv : Value) (wr : World) : Prop :=
  ∃ k, iv = .int .i64 ((k : Nat) : Int) ∧ k ≤ ms.length ∧ Fr [] w wr ∧ testsP l t ms = testsP l t (ms.drop k)
theorem testP_key {l : List At} {t : Bs} {m : Mt} (h : ¬ m.key = []) : testP l t m = fitsM l [m] := by rw [fitsM_one]; unfold testP; rw [if_neg h]
theorem testP_3 {l : List At} {t : Bs} {m : Mt} (h : m.key = []) (ho : m.op = 3) : testP l t m = Lib.contains t m.val := by unfold testP; rw [if_pos h, decide_eq_true (.inl ho), Bool.true_and, holdsP_3 ho]
theorem testP_4 {l : List At} {t : Bs} {m : Mt} (h : m.key = []) (ho : m.op = 4) : testP l t m = !Lib.contains t m.val := by unfold testP; rw [if_pos h, decide_eq_true (.inr ho), Bool.true_and, holdsP_4 ho]
theorem testP_no {l : List At} {t : Bs} {m : Mt} (h : m.key = []) (h3 : ¬ m.op = 3) (h4 : ¬ m.op = 4) : testP l t m = false := by unfold testP; rw [if_pos h, decide_eq_false (by omega), Bool.false_and]
set_option maxRecDepth 100000 in
set_option maxHeartbeats 1600000 in
theorem fitsQ_any (q : Qy) (r : Rc) (v v2 : Value) (w : World) (hX0 : GX w) (hv : QyV w v q) (hr : RecV w v2 r) (hls : AtsShort r.attrs) (hms : MtsShort q.mat) (hts : MtsShort q.tests) (htx : r.text.size ≤ 2000000) :
    Calls Tryz.prog 20 #[v, v2] w fun e w' => e = .returned (.bool (fitsQ q r.kind r.level r.attrs r.text.data.toList)) ∧ Fr [] w w' := by
  obtain ⟨q2, q4, rfl, hm2, hm4⟩ := hv
  obtain ⟨AA, ca, rfl, hat, _⟩ := hr
  obtain ⟨L, hL⟩ : ∃ L, rcList (.slice AA r.attrs.length ca) r = L := ⟨_, rfl⟩
  obtain ⟨WA, hWA⟩ : ∃ WA, (w.alloc (.cells #[q2, .int .i64 q.level, q4, .int .i64 q.limit] 24)).alloc (.cells L.toArray 39) = WA := ⟨_, rfl⟩
  have hFA : Fr [] w WA := by rw [← hWA]; exact ((Fr.refl _ _).alloc _).alloc _
  have hB1 : WA.heap[w.heap.size]? = some (.cells #[q2, .int .i64 q.level, q4, .int .i64 q.limit] 24 (0, 0)) := by rw [← hWA]; exact Go.Bl.heap_alloc_old (heap_alloc w _) _
  have hB2 : WA.heap[w.heap.size + 1]? = some (.cells (rcList (.slice AA r.attrs.length ca) r).toArray 39 (0, 0)) := by
    rw [← hWA, hL]
    have := heap_alloc (w.alloc (.cells #[q2, .int .i64 q.level, q4, .int .i64 q.limit] 24)) (.cells L.toArray 39)
    rw [size_alloc'] at this
    exact this
  obtain ⟨r0, r2, r6, r7⟩ := rc_cells hB2
  have b0 := cell_of hB1 0
  have b1 := cell_of hB1 1
  have b2 := cell_of hB1 2
  simp only [List.getElem?_toArray, List.getElem?_cons_zero, List.getElem?_cons_succ] at b0 b1 b2
  obtain ⟨kd, hkd⟩ : ∃ x, r.kind = x := ⟨_, rfl⟩
  obtain ⟨lv, hlv⟩ : ∃ x, r.level = x := ⟨_, rfl⟩
  obtain ⟨ql, hql⟩ : ∃ x, q.level = x := ⟨_, rfl⟩
  obtain ⟨X, hX⟩ : ∃ x, r.text = x := ⟨_, rfl⟩
  rw [hkd] at r0
  rw [hlv] at r6
  rw [hX] at r7
  rw [hql] at b1
  obtain ⟨A2, cp2, rfl, hl2, hx2⟩ := id hm2
  obtain ⟨A4, cp4, rfl, hl4, hx4⟩ := id hm4
  have hfa := fitsA_any r.attrs q.mat _ _ WA (hX0.fr hFA) (hat.fr hFA) (hm2.fr hFA) hls hms
  have HA := Lib.hid (And.intro hFA (And.intro hB1 (And.intro hB2 (And.intro hat (And.intro hm4 hX0)))))
  obtain ⟨ans, hans⟩ : ∃ ans, fitsQ q r.kind r.level r.attrs r.text.data.toList = ans := ⟨_, rfl⟩
  rw [hans]
  unfold fitsQ at hans
  rw [hkd, hlv, hql, hX] at hans
  obtain ⟨bf, hbf⟩ : ∃ b, fitsM r.attrs q.mat = b := ⟨_, rfl⟩
  rw [hbf] at hfa hans
  have HANS := Lib.hid hans
  have HX4 := Lib.hid hx4
  have htX : X.size ≤ 2000000 := by rw [← hX]; exact htx
  have hlen := hts.1
  rw [hql] at hWA ⊢
  rw [hL]
  clear hFA hB1 hB2 hat hm2 hm4 hX0 hans hbf hx2 hx4 htx
  have HKX := Lib.hid (And.intro hL (And.intro hkd (And.intro hlv (And.intro hql hX))))
  clear hL hkd hlv hql hX
  go_enter Tryz.func20, Tryz.ntmps20
  go_upto_region 1 with fail
  (try rw [hWA])
  clear hWA
  by_cases h1 : kd = 2
  · subst h1
    rw [decide_eq_true rfl, Bool.true_and] at HANS
    by_cases h2 : lv < ql
    · go_wp2_with fail
      go_ret
      refine ⟨?_, HA.out.1⟩
      rw [← HANS.out, decide_eq_false (by omega)]
      rfl
    · rw [decide_eq_true (by omega), Bool.true_and] at HANS
      go_wp2_with fail
      refine hfa.mono ?_
      rintro e w1 ⟨rfl, hF1⟩
      have hc := hF1.obj HA.out.2.1 (by simp)
      have d2 := cell_of hc 2
      simp only [List.getElem?_toArray, List.getElem?_cons_zero, List.getElem?_cons_succ] at d2
      have HF1 := Lib.hid hF1
      clear hF1 hc hfa r0 r2 r6 r7 b0 b1 b2
      cases bf with
      | false =>
        go_wp2_with fail
        go_ret
        exact ⟨by rw [← HANS.out]; rfl, HA.out.1.trans HF1.out⟩
      | true =>
        rw [Bool.true_and] at HANS
        go_wp2_with fail
        go_loopw [29] (fun iv wr => FQRel w1 r.attrs X.data.toList q.tests iv wr) (fun iv _ => q.tests.length - (intOf iv).toNat)
        case atStart => exact ⟨0, rfl, by omega, Fr.refl _ _, rfl⟩
        case round =>
          obtain ⟨k, rfl, hk, hF, hw⟩ := hrel
          by_cases hk2 : k < q.tests.length
          · obtain ⟨ad, rfl, m0, m1, m2⟩ := HX4.out k hk2
            have hFw := (HA.out.1.trans HF1.out).trans hF
            have c0 := cell_frS hFw m0 (by simp)
            have c1 := cell_frS hFw m1 (by simp)
            have c2 := cell_frS hFw m2 (by simp)
            have hsp := World.cell?_spot c0
            clear m0 m1 m2
            obtain ⟨m, hm⟩ : ∃ m, q.tests[k] = m := ⟨_, rfl⟩
            rw [testsP_drop hk2] at hw
            rw [hm] at c0 c1 c2 hw
            have hmm := hts.2 m (by rw [← hm]; exact List.getElem_mem _)
            have hkl : (k : Int) < (q.tests.length : Int) := by omega
            have hk1 : k + 1 ≤ 4000000 := by omega
            obtain ⟨op, hop⟩ : ∃ op, m.op = op := ⟨_, rfl⟩
            obtain ⟨K, hK⟩ : ∃ K : ByteArray, ⟨m.key.toArray⟩ = K := ⟨_, rfl⟩
            obtain ⟨V, hV⟩ : ∃ V : ByteArray, ⟨m.val.toArray⟩ = V := ⟨_, rfl⟩
            have hKe := empty_iff K
            rw [show K.data.toList = m.key by rw [← hK]] at hKe
            rw [hop] at c0
            rw [hK] at c1
            rw [hV] at c2
            obtain ⟨WE, hWE⟩ : ∃ WE, wr.alloc (.cells #[.int .i64 op, .string K, .string V] 74) = WE := ⟨_, rfl⟩
            have hFE : Fr [] wr WE := by rw [← hWE]; exact (Fr.refl _ _).alloc _
            have hEB : WE.heap[wr.heap.size]? = some (.cells #[.int .i64 op, .string K, .string V] 74 (0, 0)) := by rw [← hWE]; exact heap_alloc wr _
            have x0 := cell_of hEB 0
            have x1 := cell_of hEB 1
            have x2 := cell_of hEB 2
            simp only [List.getElem?_toArray, List.getElem?_cons_zero, List.getElem?_cons_succ] at x0 x1 x2
            have hFAE := (HF1.out.trans hF).trans hFE
            obtain ⟨_, y2, _, y7⟩ := rc_cells (hFAE.obj HA.out.2.2.1 (by simp))
            rw [HKX.out.2.2.2.2] at y7
            obtain ⟨bt, hbt⟩ : ∃ b, testP r.attrs X.data.toList m = b := ⟨_, rfl⟩
            rw [hbt] at hw
            have HW := Lib.hid (And.intro hw (And.intro hF (And.intro hFE (And.intro hbt (And.intro hop (And.intro hK (And.intro hV (And.intro hEB hFAE))))))))
            clear hw hF hFE hFw hm hbt hop hK hV hEB hFAE
            go_upto_block 2 with fail
            (try rw [hWE])
            clear hWE
            go_cut [7] (fun s7 wx => s7 = .bool bt ∧ Fr [] WE wx)
            case first =>
              by_cases hky : m.key = []
              · rw [decide_eq_true hky] at hKe
                have HKY := Lib.hid hky
                clear hky
                have hcn := contains_any X V WE htX ((HA.out.2.2.2.2.2.fr HA.out.1).fr HW.out.2.2.2.2.2.2.2.2)
                rw [show V.data.toList = m.val by rw [← HW.out.2.2.2.2.2.2.1]] at hcn
                obtain ⟨bc, hbc⟩ : ∃ b, Lib.contains X.data.toList m.val = b := ⟨_, rfl⟩
                rw [hbc] at hcn
                have HBC := Lib.hid hbc
                clear hbc
                by_cases h3 : op = 3
                · subst h3
                  go_wp2_with fail
                  refine hcn.mono ?_
                  rintro e w2 ⟨rfl, rfl⟩
                  go_wp2_with fail
                  go_meet
                  exact ⟨by rw [← HW.out.2.2.2.1, testP_3 HKY.out HW.out.2.2.2.2.1, HBC.out], Fr.refl _ _⟩
                · by_cases h4 : op = 4
                  · subst h4
                    go_wp2_with fail
                    refine hcn.mono ?_
                    rintro e w2 ⟨rfl, rfl⟩
                    go_wp2_with fail
                    go_meet
                    exact ⟨by rw [← HW.out.2.2.2.1, testP_4 HKY.out HW.out.2.2.2.2.1, HBC.out], Fr.refl _ _⟩
                  · have q3 : (op == 3) = false := by simpa using h3
                    have q4 : (op == 4) = false := by simpa using h4
                    have HNO := Lib.hid (And.intro h3 h4)
                    clear h3 h4 hcn
                    go_wp2_with fail
                    go_meet
                    exact ⟨by rw [← HW.out.2.2.2.1, testP_no HKY.out (by rw [HW.out.2.2.2.2.1]; exact HNO.out.1) (by rw [HW.out.2.2.2.2.1]; exact HNO.out.2)], Fr.refl _ _⟩
              · rw [decide_eq_false hky] at hKe
                have HKY := Lib.hid hky
                clear hky
                have hFE2 : Fr [] WE (WE.alloc (.cells #[.int .i64 op, .string K, .string V] 74)) := (Fr.refl _ _).alloc _
                have hFw2 := (HA.out.1.trans HW.out.2.2.2.2.2.2.2.2).trans hFE2
                have hf := fitsA_any r.attrs [m] _ (.slice (some ⟨WE.heap.size, 0, none⟩) 1 1) (WE.alloc (.cells #[.int .i64 op, .string K, .string V] 74)) (HA.out.2.2.2.2.2.fr hFw2) (HA.out.2.2.2.1.fr hFw2) (mts_one (heap_alloc WE _) HW.out.2.2.2.2.1 HW.out.2.2.2.2.2.1 HW.out.2.2.2.2.2.2.1) hls ⟨by simp, fun x hx => by obtain rfl := List.mem_singleton.1 hx; exact hmm⟩
                rw [← testP_key HKY.out, HW.out.2.2.2.1] at hf
                have HFE2 := Lib.hid hFE2
                clear hFE2 hFw2
                go_wp2_with fail
                refine hf.mono ?_
                rintro e w2 ⟨rfl, hF2⟩
                go_wp2_with fail
                go_meet
                exact ⟨rfl, HFE2.out.trans hF2⟩
            case rest =>
              obtain ⟨rfl, hFc⟩ := hcut
              have hF3 := (HW.out.2.1.trans HW.out.2.2.1).trans hFc
              have HF3 := Lib.hid hF3
              clear hFc hF3 x0 x1 x2 y2 y7 c0 c1 c2
              cases bt with
              | false =>
                go_wp2_with fail
                go_ret
                refine ⟨?_, (HA.out.1.trans HF1.out).trans HF3.out⟩
                rw [← HANS.out, HW.out.1]
                rfl
              | true =>
                have hwk : True → wrap64 ((k : Int) + 1) = (k : Int) + 1 := fun _ => wrap_big (c := k + 1) (by omega)
                go_wp2_with fail
                refine ⟨⟨k + 1, rfl, hk2, HF3.out, ?_⟩, by simp [intOf]; omega⟩
                rw [HW.out.1]
                rfl
          · obtain rfl : k = q.tests.length := by omega
            have g1 : ¬ (q.tests.length : Int) < (q.tests.length : Int) := by omega
            rw [List.drop_of_length_le (Nat.le_refl _), HANS.out] at hw
            have HW := Lib.hid (And.intro hw hF)
            clear hw hF
            go_wp2_with fail
            go_ret
            exact ⟨by rw [HW.out.1]; rfl, (HA.out.1.trans HF1.out).trans HW.out.2⟩
  · have q1 : (kd == 2) = false := by simpa using h1
    have H1 := Lib.hid h1
    clear h1
    go_wp2_with fail
    go_ret
    exact ⟨by rw [← HANS.out, decide_eq_false H1.out]; rfl, HA.out.1⟩
end Go.Proofs.YtdhmloejgoacaaaGreatDoor
namespace Go.Proofs.YtdhmloejgoacaaaGreatDoor
open Go.RowKit Go.Bl Go.Lq Go.Tq
theorem rc_cellsT {w : World} {b : Nat} {a : Value} {r : Rc} {T : TypeId} (h : w.heap[b]? = some (.cells (rcList a r).toArray T (0, 0))) :
    w.cell? ⟨b, 0, none⟩ = some (.int .i64 r.kind) ∧ w.cell? ⟨b, 1, none⟩ = some (.string r.name) ∧ w.cell? ⟨b, 2, none⟩ = some a ∧ w.cell? ⟨b, 3, none⟩ = some (.int .i64 r.t) ∧ w.cell? ⟨b, 4, none⟩ = some (.int .i64 r.tt) :=
  ⟨cell_of h 0, cell_of h 1, cell_of h 2, cell_of h 3, cell_of h 4⟩
def timeP (t tt : Int) (least : Int) : Bool := decide (t ≤ tt) && decide (IntKind.u64.wrap (max least 0) ≤ IntKind.u64.wrap (wrap64 (tt - t)))
def nameP (n : Bs) (m : ByteArray) : Bool := decide (n = []) || decide (n = m.data.toList)
def fitsT (t : St) (r : Rc) : Bool := decide (r.kind = 3) && nameP t.name r.name && timeP r.t r.tt t.least && fitsM r.attrs t.mat
set_option maxRecDepth 100000 in
set_option maxHeartbeats 1600000 in
theorem fitsT_any (q : St) (r : Rc) (v v2 : Value) (w : World) (hX0 : GX w) (hv : StV w v q) (hr : RecV w v2 r) (hls : AtsShort r.attrs) (hms : MtsShort q.mat) :
    Calls Tryz.prog 37 #[v, v2] w fun e w' => e = .returned (.bool (fitsT q r)) ∧ Fr [] w w' := by
  obtain ⟨m, rfl, hm⟩ := hv
  obtain ⟨AA, ca, rfl, hat, _⟩ := hr
  obtain ⟨A2, cp2, rfl, hl2, hx2⟩ := id hm
  obtain ⟨L, hL⟩ : ∃ L, rcList (.slice AA r.attrs.length ca) r = L := ⟨_, rfl⟩
  obtain ⟨NM, hNM⟩ : ∃ NM, ByteArray.mk q.name.toArray = NM := ⟨_, rfl⟩
  rw [hNM]
  obtain ⟨X, hX⟩ : ∃ X, w.heap.size = X := ⟨_, rfl⟩
  obtain ⟨WA, hWA⟩ : ∃ WA, (w.alloc (.cells #[.string NM, .int .i64 q.least, .slice A2 q.mat.length cp2] 45)).alloc (.cells L.toArray 39) = WA := ⟨_, rfl⟩
  have hFA : Fr [] w WA := by rw [← hWA]; exact ((Fr.refl _ _).alloc _).alloc _
  have hB1 : WA.heap[X]? = some (.cells #[.string NM, .int .i64 q.least, .slice A2 q.mat.length cp2] 45 (0, 0)) := by rw [← hWA, ← hX]; exact Go.Bl.heap_alloc_old (Go.Bl.heap_alloc w _) _
  have hB2 : WA.heap[X + 1]? = some (.cells (rcList (.slice AA r.attrs.length ca) r).toArray 39 (0, 0)) := by
    rw [← hWA, hL]
    have := Go.Bl.heap_alloc (w.alloc (.cells #[.string NM, .int .i64 q.least, .slice A2 q.mat.length cp2] 45)) (.cells L.toArray 39)
    rw [size_alloc', hX] at this
    exact this
  obtain ⟨r0, r1, r2, r3, r4⟩ := rc_cellsT hB2
  have b0 := cell_of hB1 0
  have b1 := cell_of hB1 1
  have b2 := cell_of hB1 2
  simp only [List.getElem?_toArray, List.getElem?_cons_zero, List.getElem?_cons_succ] at b0 b1 b2
  have hfa := fitsA_any r.attrs q.mat _ _ WA (hX0.fr hFA) (hat.fr hFA) (hm.fr hFA) hls hms
  obtain ⟨kd, hkd⟩ : ∃ x, r.kind = x := ⟨_, rfl⟩
  obtain ⟨t1, ht1⟩ : ∃ x, r.t = x := ⟨_, rfl⟩
  obtain ⟨t2, ht2⟩ : ∃ x, r.tt = x := ⟨_, rfl⟩
  obtain ⟨ls, hls2⟩ : ∃ x, q.least = x := ⟨_, rfl⟩
  obtain ⟨RN, hRN⟩ : ∃ x, r.name = x := ⟨_, rfl⟩
  obtain ⟨bf, hbf⟩ : ∃ b, fitsM r.attrs q.mat = b := ⟨_, rfl⟩
  obtain ⟨ans, hans⟩ : ∃ ans, fitsT q r = ans := ⟨_, rfl⟩
  rw [hans]
  unfold fitsT at hans
  rw [hkd, ht1, ht2, hls2, hRN, hbf] at hans
  rw [hbf] at hfa
  rw [hkd] at r0
  rw [hRN] at r1
  rw [ht1] at r3
  rw [ht2] at r4
  rw [hls2] at b1 hWA ⊢
  have hqn : q.name = NM.data.toList := by rw [← hNM]
  rw [hqn] at hans
  have HANS := Lib.hid hans
  have HFA := Lib.hid hFA
  rw [hL]
  clear hFA hB1 hB2 hat hm hans hbf hx2 hkd ht1 ht2 hls2 hRN hL hNM hqn
  go_enter Tryz.func37, Tryz.ntmps37
  go_upto_region 1 with fail
  (try rw [hX])
  (try rw [hWA])
  clear hWA
  obtain ⟨e1, he1⟩ : ∃ b, decide (NM.data.toList = []) = b := ⟨_, rfl⟩
  obtain ⟨e2, he2⟩ : ∃ b, decide (NM.data.toList = RN.data.toList) = b := ⟨_, rfl⟩
  have g1 := empty_iff NM
  rw [he1] at g1
  have g2 : (NM.toList == RN.toList) = e2 := by rw [← he2]; exact beq_bytes NM RN
  have HN := Lib.hid (show nameP NM.data.toList RN = (e1 || e2) by unfold nameP; rw [he1, he2])
  rw [HN.out] at HANS
  clear he1 he2
  by_cases h1 : kd = 3
  · subst h1
    by_cases h2 : t2 < t1
    · go_wp2_with fail
      go_ret
      refine ⟨?_, HFA.out⟩
      rw [← HANS.out]
      unfold timeP
      rw [decide_eq_false (p := t1 ≤ t2) (by omega)]
      simp
    · have h2' : t1 ≤ t2 := by omega
      by_cases h4 : IntKind.u64.wrap (max ls 0) ≤ IntKind.u64.wrap (wrap64 (t2 - t1))
      · have HT := Lib.hid (show timeP t1 t2 ls = true by unfold timeP; rw [decide_eq_true h2', decide_eq_true h4]; rfl)
        rw [HT.out] at HANS
        cases e1 with
        | true =>
          go_wp2_with fail
          refine hfa.mono ?_
          rintro e w1 ⟨rfl, hF1⟩
          go_wp2_with fail
          go_ret
          exact ⟨by rw [← HANS.out]; simp, HFA.out.trans hF1⟩
        | false =>
          cases e2 with
          | true =>
            go_wp2_with fail
            refine hfa.mono ?_
            rintro e w1 ⟨rfl, hF1⟩
            go_wp2_with fail
            go_ret
            exact ⟨by rw [← HANS.out]; simp, HFA.out.trans hF1⟩
          | false =>
            go_wp2_with fail
            go_ret
            exact ⟨by rw [← HANS.out]; simp, HFA.out⟩
      · have HT := Lib.hid (show timeP t1 t2 ls = false by unfold timeP; rw [decide_eq_false h4]; simp)
        rw [HT.out] at HANS
        cases e1 with
        | true =>
          go_wp2_with fail
          go_ret
          exact ⟨by rw [← HANS.out]; simp, HFA.out⟩
        | false =>
          cases e2 with
          | true =>
            go_wp2_with fail
            go_ret
            exact ⟨by rw [← HANS.out]; simp, HFA.out⟩
          | false =>
            go_wp2_with fail
            go_ret
            exact ⟨by rw [← HANS.out]; simp, HFA.out⟩
  · have q1 : (kd == 3) = false := by simpa using h1
    have H1 := Lib.hid h1
    clear h1
    go_wp2_with fail
    go_ret
    exact ⟨by rw [← HANS.out, decide_eq_false H1.out]; rfl, HFA.out⟩
end Go.Proofs.YtdhmloejgoacaaaGreatDoor
namespace Go.Proofs.YtdhmloejgoacaaaGreatDoor
open Go.RowKit Go.Bl Go.Lq Go.Tq
theorem timeP_ref (t tt ls : Int) : timeP t tt ls = (decide (t ≤ tt) && (decide (ls < 0) || decide (IntKind.u64.wrap ls ≤ IntKind.u64.wrap (IntKind.u64.wrap tt - IntKind.u64.wrap t)))) := by
  unfold timeP
  have e : IntKind.u64.wrap (wrap64 (tt - t)) = IntKind.u64.wrap (IntKind.u64.wrap tt - IntKind.u64.wrap t) := by
    simp only [IntKind.wrap_u64]
    unfold wrap64
    omega
  rw [e]
  by_cases h : ls < 0
  · rw [decide_eq_true h, show max ls 0 = 0 by omega, decide_eq_true (show IntKind.u64.wrap 0 ≤ _ by simp only [IntKind.wrap_u64]; omega)]
    rfl
  · rw [decide_eq_false h, show max ls 0 = ls by omega, Bool.false_or]
set_option maxRecDepth 100000 in
set_option maxHeartbeats 1600000 in
theorem fitsTR_any (q : St) (r : Rc) (v v2 : Value) (w : World) (hv : StV w v q) (hr : RecV w v2 r) (hls : AtsShort r.attrs) (hms : MtsShort q.mat) :
    Calls Tryz.prog 38 #[v, v2] w fun e w' => e = .returned (.bool (fitsT q r)) ∧ Fr [] w w' := by
  obtain ⟨m, rfl, hm⟩ := hv
  obtain ⟨AA, ca, rfl, hat, _⟩ := hr
  obtain ⟨A2, cp2, rfl, hl2, hx2⟩ := id hm
  obtain ⟨L, hL⟩ : ∃ L, rcList (.slice AA r.attrs.length ca) r = L := ⟨_, rfl⟩
  obtain ⟨NM, hNM⟩ : ∃ NM, ByteArray.mk q.name.toArray = NM := ⟨_, rfl⟩
  rw [hNM]
  obtain ⟨X, hX⟩ : ∃ X, w.heap.size = X := ⟨_, rfl⟩
  obtain ⟨WA, hWA⟩ : ∃ WA, (w.alloc (.cells #[.string NM, .int .i64 q.least, .slice A2 q.mat.length cp2] 45)).alloc (.cells L.toArray 39) = WA := ⟨_, rfl⟩
  have hFA : Fr [] w WA := by rw [← hWA]; exact ((Fr.refl _ _).alloc _).alloc _
  have hB1 : WA.heap[X]? = some (.cells #[.string NM, .int .i64 q.least, .slice A2 q.mat.length cp2] 45 (0, 0)) := by rw [← hWA, ← hX]; exact Go.Bl.heap_alloc_old (Go.Bl.heap_alloc w _) _
  have hB2 : WA.heap[X + 1]? = some (.cells (rcList (.slice AA r.attrs.length ca) r).toArray 39 (0, 0)) := by
    rw [← hWA, hL]
    have := Go.Bl.heap_alloc (w.alloc (.cells #[.string NM, .int .i64 q.least, .slice A2 q.mat.length cp2] 45)) (.cells L.toArray 39)
    rw [size_alloc', hX] at this
    exact this
  obtain ⟨r0, r1, r2, r3, r4⟩ := rc_cellsT hB2
  have b0 := cell_of hB1 0
  have b1 := cell_of hB1 1
  have b2 := cell_of hB1 2
  simp only [List.getElem?_toArray, List.getElem?_cons_zero, List.getElem?_cons_succ] at b0 b1 b2
  have hfa := fitsR_any r.attrs q.mat _ _ WA (hat.fr hFA) (hm.fr hFA) hls hms
  obtain ⟨kd, hkd⟩ : ∃ x, r.kind = x := ⟨_, rfl⟩
  obtain ⟨t1, ht1⟩ : ∃ x, r.t = x := ⟨_, rfl⟩
  obtain ⟨t2, ht2⟩ : ∃ x, r.tt = x := ⟨_, rfl⟩
  obtain ⟨ls, hls2⟩ : ∃ x, q.least = x := ⟨_, rfl⟩
  obtain ⟨RN, hRN⟩ : ∃ x, r.name = x := ⟨_, rfl⟩
  obtain ⟨bf, hbf⟩ : ∃ b, fitsM r.attrs q.mat = b := ⟨_, rfl⟩
  obtain ⟨ans, hans⟩ : ∃ ans, fitsT q r = ans := ⟨_, rfl⟩
  rw [hans]
  unfold fitsT at hans
  rw [hkd, ht1, ht2, hls2, hRN, hbf] at hans
  rw [hbf] at hfa
  rw [hkd] at r0
  rw [hRN] at r1
  rw [ht1] at r3
  rw [ht2] at r4
  rw [hls2] at b1 hWA ⊢
  have hqn : q.name = NM.data.toList := by rw [← hNM]
  rw [hqn] at hans
  have HANS := Lib.hid hans
  have HFA := Lib.hid hFA
  rw [hL]
  clear hFA hB1 hB2 hat hm hans hbf hx2 hkd ht1 ht2 hls2 hRN hL hNM hqn
  go_enter Tryz.func38, Tryz.ntmps38
  go_upto_region 1 with fail
  (try rw [hX])
  (try rw [hWA])
  clear hWA
  obtain ⟨e1, he1⟩ : ∃ b, decide (NM.data.toList = []) = b := ⟨_, rfl⟩
  obtain ⟨e2, he2⟩ : ∃ b, decide (NM.data.toList = RN.data.toList) = b := ⟨_, rfl⟩
  have g1 := empty_iff NM
  rw [he1] at g1
  have g2 : (NM.toList == RN.toList) = e2 := by rw [← he2]; exact beq_bytes NM RN
  have HN := Lib.hid (show nameP NM.data.toList RN = (e1 || e2) by unfold nameP; rw [he1, he2])
  rw [HN.out] at HANS
  clear he1 he2
  obtain ⟨bt, hbt⟩ : ∃ b, timeP t1 t2 ls = b := ⟨_, rfl⟩
  rw [hbt] at HANS
  rw [timeP_ref] at hbt
  by_cases h2 : t2 < t1
  · have HT := Lib.hid (show bt = false by rw [← hbt, decide_eq_false (p := t1 ≤ t2) (by omega)]; rfl)
    clear hbt
    rw [HT.out] at HANS
    by_cases h1 : kd = 3
    · subst h1
      cases e1 with
      | true =>
        go_wp2_with fail
        go_ret
        exact ⟨by rw [← HANS.out]; simp, HFA.out⟩
      | false =>
        cases e2 with
        | true =>
          go_wp2_with fail
          go_ret
          exact ⟨by rw [← HANS.out]; simp, HFA.out⟩
        | false =>
          go_wp2_with fail
          go_ret
          exact ⟨by rw [← HANS.out]; simp, HFA.out⟩
    · have q1 : (kd == 3) = false := by simpa using h1
      have H1 := Lib.hid h1
      clear h1
      go_wp2_with fail
      go_ret
      exact ⟨by rw [← HANS.out, decide_eq_false H1.out]; rfl, HFA.out⟩
  · have h2' : t1 ≤ t2 := by omega
    rw [decide_eq_true h2', Bool.true_and] at hbt
    by_cases h3 : ls < 0
    · rw [decide_eq_true h3, Bool.true_or] at hbt
      subst hbt
      by_cases h1 : kd = 3
      · subst h1
        cases e1 with
        | true =>
          go_wp2_with fail
          refine hfa.mono ?_
          rintro e w1 ⟨rfl, hF1⟩
          go_wp2_with fail
          go_ret
          exact ⟨by rw [← HANS.out]; simp, HFA.out.trans hF1⟩
        | false =>
          cases e2 with
          | true =>
            go_wp2_with fail
            refine hfa.mono ?_
            rintro e w1 ⟨rfl, hF1⟩
            go_wp2_with fail
            go_ret
            exact ⟨by rw [← HANS.out]; simp, HFA.out.trans hF1⟩
          | false =>
            go_wp2_with fail
            go_ret
            exact ⟨by rw [← HANS.out]; simp, HFA.out⟩
      · have q1 : (kd == 3) = false := by simpa using h1
        have H1 := Lib.hid h1
        clear h1
        go_wp2_with fail
        go_ret
        exact ⟨by rw [← HANS.out, decide_eq_false H1.out]; rfl, HFA.out⟩
    · rw [decide_eq_false h3, Bool.false_or] at hbt
      by_cases h4 : IntKind.u64.wrap ls ≤ IntKind.u64.wrap (IntKind.u64.wrap t2 - IntKind.u64.wrap t1)
      · rw [decide_eq_true h4] at hbt
        subst hbt
        by_cases h1 : kd = 3
        · subst h1
          cases e1 with
          | true =>
            go_wp2_with fail
            refine hfa.mono ?_
            rintro e w1 ⟨rfl, hF1⟩
            go_wp2_with fail
            go_ret
            exact ⟨by rw [← HANS.out]; simp, HFA.out.trans hF1⟩
          | false =>
            cases e2 with
            | true =>
              go_wp2_with fail
              refine hfa.mono ?_
              rintro e w1 ⟨rfl, hF1⟩
              go_wp2_with fail
              go_ret
              exact ⟨by rw [← HANS.out]; simp, HFA.out.trans hF1⟩
            | false =>
              go_wp2_with fail
              go_ret
              exact ⟨by rw [← HANS.out]; simp, HFA.out⟩
        · have q1 : (kd == 3) = false := by simpa using h1
          have H1 := Lib.hid h1
          clear h1
          go_wp2_with fail
          go_ret
          exact ⟨by rw [← HANS.out, decide_eq_false H1.out]; rfl, HFA.out⟩
      · rw [decide_eq_false h4] at hbt
        subst hbt
        by_cases h1 : kd = 3
        · subst h1
          cases e1 with
          | true =>
            go_wp2_with fail
            go_ret
            exact ⟨by rw [← HANS.out]; simp, HFA.out⟩
          | false =>
            cases e2 with
            | true =>
              go_wp2_with fail
              go_ret
              exact ⟨by rw [← HANS.out]; simp, HFA.out⟩
            | false =>
              go_wp2_with fail
              go_ret
              exact ⟨by rw [← HANS.out]; simp, HFA.out⟩
        · have q1 : (kd == 3) = false := by simpa using h1
          have H1 := Lib.hid h1
          clear h1
          go_wp2_with fail
          go_ret
          exact ⟨by rw [← HANS.out, decide_eq_false H1.out]; rfl, HFA.out⟩
end Go.Proofs.YtdhmloejgoacaaaGreatDoor
