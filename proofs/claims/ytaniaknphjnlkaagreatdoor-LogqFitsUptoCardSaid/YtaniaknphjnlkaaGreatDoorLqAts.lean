/- Attributes; Get, Has, Holds. -/
import Derived.Test.YtaniaknphjnlkaaGreatDoorMf12
import Derived.Test.YtaniaknphjnlkaaGreatDoorLqFitP
import Derived.Test.YtaniaknphjnlkaaGreatDoorMf33
namespace Go.Proofs.YtaniaknphjnlkaaGreatDoor
open Go.RowKit Go.Bl Go.Lq

def AtAt (w : World) (ad : Addr) (m : At) : Prop :=
  w.cell? ad = some (.string ⟨m.key.toArray⟩) ∧ w.cell? ⟨ad.block, ad.off + 1, none⟩ = some (.string ⟨m.val.toArray⟩)
/-- The slice v holds l. -/
def Ats (w : World) (v : Value) (l : List At) : Prop :=
  ∃ A cap, v = .slice A l.length cap ∧ l.length ≤ 9223372036854775807 ∧ ∀ i (h : i < l.length), ∃ ad, A = some ad ∧ AtAt w (ad.add (i * 2)) l[i]
theorem AtAt.fr {w w' : World} {ad : Addr} {m : At} (h : AtAt w ad m) (hF : Fr [] w w') : AtAt w' ad m := ⟨cell_frS hF h.1 (by simp), cell_frS hF h.2 (by simp)⟩
theorem Ats.fr {w w' : World} {v : Value} {l : List At} (h : Ats w v l) (hF : Fr [] w w') : Ats w' v l := by
  obtain ⟨A, cap, e, hl, hx⟩ := h
  exact ⟨A, cap, e, hl, fun i hi => by obtain ⟨ad, ha, hm⟩ := hx i hi; exact ⟨ad, ha, hm.fr hF⟩⟩
theorem Ats.nil (w : World) : Ats w (.slice none 0 0) [] := ⟨none, 0, rfl, by simp, fun i hi => absurd hi (by simp)⟩
theorem beq_bytes (a b : ByteArray) : (a.toList == b.toList) = decide (a.data.toList = b.data.toList) := by
  rw [ByteArray.toList_eq, ByteArray.toList_eq, Bool.eq_iff_iff]
  simp
def GetRel (w : World) (l : List At) (x : Bs) (iv : Value) (wr : World) : Prop :=
  ∃ k, iv = .int .i64 ((k : Nat) : Int) ∧ k ≤ l.length ∧ Fr [] w wr ∧ getP l x = getP (l.drop k) x
def getV (r : Bs × Bool) : Value := .tuple #[.string ⟨r.1.toArray⟩, .bool r.2]
set_option maxRecDepth 100000 in
set_option maxHeartbeats 800000 in
theorem get_any (l : List At) (v : Value) (x : ByteArray) (w : World) (hl1 : l.length ≤ 2000000) (hM : Ats w v l) :
    Calls Tryz.prog 57 #[v, .string x] w fun e w' => e = .returned (getV (getP l x.data.toList)) ∧ Fr [] w w' := by
  obtain ⟨A, cp, rfl, hl, hx⟩ := hM
  have HX := Lib.hid hx
  obtain ⟨ans, hans⟩ : ∃ ans, getP l x.data.toList = ans := ⟨_, rfl⟩
  rw [hans]
  have HANS := Lib.hid hans
  clear hx hans
  go_enter Tryz.func57, Tryz.ntmps57
  go_wp2_with fail
  go_loopw [10] (fun iv wr => GetRel w l x.data.toList iv wr) (fun iv _ => l.length - (intOf iv).toNat)
  case atStart => exact ⟨0, rfl, by omega, Fr.refl _ _, rfl⟩
  case round =>
    obtain ⟨k, rfl, hk, hF, hw⟩ := hrel
    by_cases hk2 : k < l.length
    · obtain ⟨ad, rfl, m0, m1⟩ := HX.out k hk2
      have c0 := cell_frS hF m0 (by simp)
      have c1 := cell_frS hF m1 (by simp)
      have hsp := World.cell?_spot c0
      clear m0 m1
      obtain ⟨m, hm⟩ : ∃ m, l[k] = m := ⟨_, rfl⟩
      rw [getP_drop hk2] at hw
      rw [hm] at c0 c1 hw
      obtain ⟨K, hK⟩ : ∃ K : ByteArray, ⟨m.key.toArray⟩ = K := ⟨_, rfl⟩
      obtain ⟨V, hV⟩ : ∃ V : ByteArray, ⟨m.val.toArray⟩ = V := ⟨_, rfl⟩
      rw [hK] at c0
      rw [hV] at c1
      have hkl : (k : Int) < (l.length : Int) := by omega
      have hk1 : k + 1 ≤ 4000000 := by omega
      have hbe := beq_bytes K x
      rw [show K.data.toList = m.key by rw [← hK]] at hbe
      have hF2 : Fr [] w (wr.alloc (.cells #[.string K, .string V] 77)) := hF.alloc _
      have HW := Lib.hid (And.intro hw (And.intro hF2 (And.intro hV HANS.out)))
      clear hw hF hF2 hm hK hV
      by_cases he : m.key = x.data.toList
      · rw [decide_eq_true he] at hbe
        have HE := Lib.hid he
        clear he
        go_wp2_with fail
        go_ret2
        refine ⟨?_, HW.out.2.1⟩
        have := HW.out.1
        rw [if_pos HE.out, HW.out.2.2.2] at this
        rw [this]
        unfold getV
        rw [← HW.out.2.2.1]
        rfl
      · rw [decide_eq_false he] at hbe
        have HE := Lib.hid he
        clear he
        have hwk : True → wrap64 ((k : Int) + 1) = (k : Int) + 1 := fun _ => wrap_big (c := k + 1) (by omega)
        go_wp2_with fail
        refine ⟨⟨k + 1, rfl, hk2, HW.out.2.1, ?_⟩, by simp [intOf]; omega⟩
        rw [HW.out.1, if_neg HE.out]
    · obtain rfl : k = l.length := by omega
      have g1 : ¬ (l.length : Int) < (l.length : Int) := by omega
      rw [List.drop_of_length_le (Nat.le_refl _), HANS.out] at hw
      have HW := Lib.hid (And.intro hw hF)
      clear hw hF
      go_wp2_with fail
      go_ret2
      exact ⟨by rw [HW.out.1]; rfl, HW.out.2⟩
set_option maxRecDepth 100000 in
set_option maxHeartbeats 800000 in
theorem getR_any (l : List At) (v : Value) (x : ByteArray) (w : World) (hl1 : l.length ≤ 2000000) (hM : Ats w v l) :
    Calls Tryz.prog 38 #[v, .string x] w fun e w' => e = .returned (getV (getP l x.data.toList)) ∧ Fr [] w w' := by
  obtain ⟨A, cp, rfl, hl, hx⟩ := hM
  have HX := Lib.hid hx
  obtain ⟨ans, hans⟩ : ∃ ans, getP l x.data.toList = ans := ⟨_, rfl⟩
  rw [hans]
  have HANS := Lib.hid hans
  clear hx hans
  go_enter Tryz.func38, Tryz.ntmps38
  go_wp2_with fail
  go_loopw [6] (fun iv wr => GetRel w l x.data.toList iv wr) (fun iv _ => l.length - (intOf iv).toNat)
  case atStart => exact ⟨0, rfl, by omega, Fr.refl _ _, rfl⟩
  case round =>
    obtain ⟨k, rfl, hk, hF, hw⟩ := hrel
    by_cases hk2 : k < l.length
    · obtain ⟨ad, rfl, m0, m1⟩ := HX.out k hk2
      have c0 := cell_frS hF m0 (by simp)
      have c1 := cell_frS hF m1 (by simp)
      have hsp := World.cell?_spot c0
      clear m0 m1
      obtain ⟨m, hm⟩ : ∃ m, l[k] = m := ⟨_, rfl⟩
      rw [getP_drop hk2] at hw
      rw [hm] at c0 c1 hw
      obtain ⟨K, hK⟩ : ∃ K : ByteArray, ⟨m.key.toArray⟩ = K := ⟨_, rfl⟩
      obtain ⟨V, hV⟩ : ∃ V : ByteArray, ⟨m.val.toArray⟩ = V := ⟨_, rfl⟩
      rw [hK] at c0
      rw [hV] at c1
      have hkl : (k : Int) < (l.length : Int) := by omega
      have hk1 : k + 1 ≤ 4000000 := by omega
      have hbe := beq_bytes K x
      rw [show K.data.toList = m.key by rw [← hK]] at hbe
      have HW := Lib.hid (And.intro hw (And.intro hF (And.intro hV HANS.out)))
      clear hw hF hm hK hV
      by_cases he : m.key = x.data.toList
      · rw [decide_eq_true he] at hbe
        have HE := Lib.hid he
        clear he
        go_wp2_with fail
        go_ret2
        refine ⟨?_, HW.out.2.1⟩
        have := HW.out.1
        rw [if_pos HE.out, HW.out.2.2.2] at this
        rw [this]
        unfold getV
        rw [← HW.out.2.2.1]
        rfl
      · rw [decide_eq_false he] at hbe
        have HE := Lib.hid he
        clear he
        have hwk : True → wrap64 ((k : Int) + 1) = (k : Int) + 1 := fun _ => wrap_big (c := k + 1) (by omega)
        go_wp2_with fail
        refine ⟨⟨k + 1, rfl, hk2, HW.out.2.1, ?_⟩, by simp [intOf]; omega⟩
        rw [HW.out.1, if_neg HE.out]
    · obtain rfl : k = l.length := by omega
      have g1 : ¬ (l.length : Int) < (l.length : Int) := by omega
      rw [List.drop_of_length_le (Nat.le_refl _), HANS.out] at hw
      have HW := Lib.hid (And.intro hw hF)
      clear hw hF
      go_wp2_with fail
      go_ret2
      exact ⟨by rw [HW.out.1]; rfl, HW.out.2⟩
theorem ext_bytes (s : ByteArray) (k n : Nat) : (s.extract k (k + n)).data.toList = (s.data.toList.drop k).take n := by
  rw [ByteArray.data_extract, Array.toList_extract]
  simp
def HasRel (s p : ByteArray) (w : World) (iv : Value) (wr : World) : Prop :=
  ∃ k, iv = .int .i64 ((k : Nat) : Int) ∧ k ≤ s.size + 1 ∧ Fr [] w wr ∧ ∀ j, j < k → Lib.occAt s.data.toList p.data.toList j = false
set_option maxRecDepth 100000 in
set_option maxHeartbeats 800000 in
theorem has_any' (s p : ByteArray) (w : World) (hs : s.size ≤ 2000000) (hp : p.size ≤ 2000000) :
    Calls Tryz.prog 59 #[.string s, .string p] w fun e w' => e = .returned (.bool (Lib.contains s.data.toList p.data.toList)) ∧ Fr [] w w' := by
  obtain ⟨ans, hans⟩ : ∃ ans, Lib.contains s.data.toList p.data.toList = ans := ⟨_, rfl⟩
  rw [hans]
  have HANS := Lib.hid hans
  clear hans
  have HLS := Lib.hid (And.intro (bytes_len s) (bytes_len p))
  go_enter Tryz.func59, Tryz.ntmps59
  go_wp2_with fail
  go_loopw [5] (fun iv wr => HasRel s p w iv wr) (fun iv _ => s.size + 2 - (intOf iv).toNat)
  case atStart => exact ⟨0, rfl, by omega, Fr.refl _ _, fun j hj => absurd hj (by omega)⟩
  case round =>
    obtain ⟨k, rfl, hk, hF, hn⟩ := hrel
    have HN := Lib.hid (And.intro hn hF)
    clear hn hF
    by_cases hk2 : k + p.size ≤ s.size
    · have g1 : (k : Int) + (p.size : Int) ≤ (s.size : Int) := by omega
      have g2 : (0 : Int) ≤ (k : Int) ∧ (k : Int) ≤ (k : Int) + (p.size : Int) ∧ (k : Int) + (p.size : Int) ≤ (s.size : Int) := by omega
      have hbe := beq_bytes (s.extract k (k + p.size)) p
      rw [ext_bytes] at hbe
      by_cases he : (s.data.toList.drop k).take p.size = p.data.toList
      · rw [decide_eq_true he] at hbe
        have HE := Lib.hid he
        clear he
        go_wp2_with fail
        go_ret
        refine ⟨?_, HN.out.2⟩
        rw [← HANS.out, contains_yes (i := k) (by rw [HLS.out.1, HLS.out.2]; exact hk2) (by rw [HLS.out.2]; exact HE.out) HN.out.1]
        rfl
      · rw [decide_eq_false he] at hbe
        have HE := Lib.hid he
        clear he
        go_wp2_with fail
        refine ⟨⟨k + 1, rfl, by omega, HN.out.2, fun j hj => ?_⟩, by simp [intOf]; omega⟩
        rcases (by omega : j < k ∨ j = k) with h | h
        · exact HN.out.1 j h
        · subst h
          rw [occ_iff (by rw [HLS.out.1, HLS.out.2]; exact hk2), HLS.out.2, decide_eq_false HE.out]
    · have g1 : ¬ (k : Int) + (p.size : Int) ≤ (s.size : Int) := by omega
      go_wp2_with fail
      go_ret
      refine ⟨?_, HN.out.2⟩
      rw [← HANS.out, contains_no (i := k) (by rw [HLS.out.1, HLS.out.2]; omega) HN.out.1]
      rfl
end Go.Proofs.YtaniaknphjnlkaaGreatDoor
