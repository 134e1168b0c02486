/- The reader of queries: what it holds; the walks of byte, take, bad. -/
import Derived.Test.YtaniaknphjnlkaaGreatDoorProg
import Derived.Test.YtaniaknphjnlkaaGreatDoorBase
import Derived.Test.YtaniaknphjnlkaaGreatDoorLqPure
import Derived.Deep.QuietTactic
import Derived.BigQuiet
import Derived.RegionTactic
import Derived.ChangeAlike
import Derived.StillTailTactics
import Derived.Lib.Hide
import Derived.Outline
import Derived.Deep.Quiet
namespace Go.Proofs.YtaniaknphjnlkaaGreatDoor
open Go.RowKit Go.Bl Go.Lq

/-- The reader at b reads s, of which l is left; its other cells. -/
structure Rd (w : World) (b : Nat) (s : ByteArray) (l : Bs) (c2 c3 c4 c5 : Value) : Prop where
  cells : w.heap[b]? = some (.cells #[.string s, .int .i64 ((s.size - l.length : Nat) : Int), c2, c3, c4, c5] 48 (0, 0))
  suf : l <:+ s.data.toList
  short : s.size ≤ 1024

/-- A string of bytes, its place behind which l is left. -/
theorem Rd.at {w : World} {b : Nat} {s : ByteArray} {c : UInt8} {l : Bs} {c2 c3 c4 c5 : Value} (h : Rd w b s (c :: l) c2 c3 c4 c5) :
    ∃ p, s.size - (c :: l).length = p ∧ s.size - l.length = p + 1 ∧ ∃ hp : p < s.size, s[p] = c := by
  obtain ⟨t, ht⟩ := h.suf
  have hl : s.data.toList.length = s.size := by cases s; rfl
  have h1 : t.length + (l.length + 1) = s.size := by rw [← hl, ← ht]; simp
  refine ⟨t.length, by simp; omega, by omega, by omega, ?_⟩
  have : s.data.toList[t.length]? = some c := by rw [← ht]; simp
  have h2 : s[t.length]'(by omega) = s.data.toList[t.length]'(by rw [hl]; omega) := by cases s; rfl
  rw [h2]
  exact (List.getElem?_eq_some_iff.1 this).2
theorem skipL_cons (c : UInt8) (l : Bs) : skipL (c :: l) = if c = 32 ∨ c = 9 then skipL l else c :: l := by
  unfold skipL
  rw [List.dropWhile_cons]
  simp [isBlank]
theorem Rd.fr {S : List Nat} {w w' : World} {b : Nat} {s : ByteArray} {l : Bs} {c2 c3 c4 c5 : Value} (h : Rd w b s l c2 c3 c4 c5) (hF : Fr S w w') (hb : b ∉ S) : Rd w' b s l c2 c3 c4 c5 :=
  ⟨hF.obj h.cells hb, h.suf, h.short⟩
theorem Rd.drewN {w : World} {b : Nat} {s : ByteArray} {l : Bs} {c2 c3 c4 c5 : Value} (h : Rd w b s l c2 c3 c4 c5) (n : Nat) : Rd (w.drewN n) b s l c2 c3 c4 c5 := ⟨h.cells, h.suf, h.short⟩
/-- The reader is set on a later place. -/
theorem Rd.set {w : World} {b : Nat} {s : ByteArray} {l l' : Bs} {c2 c3 c4 c5 : Value} (h : Rd w b s l c2 c3 c4 c5) (hs : l' <:+ l) {i : Int} (hi : i = ((s.size - l'.length : Nat) : Int)) :
    Rd (w.setCell ⟨b, 1, none⟩ (.int .i64 i)) b s l' c2 c3 c4 c5 := by
  refine ⟨?_, hs.trans h.suf, h.short⟩
  rw [heap_setCell h.cells, hi]
  rfl
def posIn (w : World) (b : Nat) : Nat := match w.cell? ⟨b, 1, none⟩ with | some (.int _ i) => i.toNat | _ => 0
theorem posIn_set {w : World} {b : Nat} {s : ByteArray} {l : Bs} {c2 c3 c4 c5 : Value} (h : Rd w b s l c2 c3 c4 c5) : posIn w b = s.size - l.length := by
  unfold posIn
  rw [cell_of h.cells]
  simp
theorem wrap_next {p n : Nat} (h : p < n) (h2 : n ≤ 1024) : wrap64 ((p : Int) + 1) = ((p + 1 : Nat) : Int) := by
  unfold wrap64
  omega
def ByteRel (b : Nat) (s : ByteArray) (l : Bs) (c2 c3 c4 c5 : Value) (w wr : World) : Prop := ∃ m, Rd wr b s m c2 c3 c4 c5 ∧ skipL m = skipL l ∧ Fr [b] w wr

set_option maxRecDepth 100000 in
theorem byte_any (b : Nat) (s : ByteArray) (l : Bs) (c2 c3 c4 c5 : Value) (w : World) (h : Rd w b s l c2 c3 c4 c5) :
    Calls Tryz.prog 24 #[.pointer (some ⟨b, 0, none⟩)] w fun e w' =>
      e = .returned (.int .u8 (((skipL l).headD 0).toNat : Int)) ∧ Rd w' b s (skipL l) c2 c3 c4 c5 ∧ Fr [b] w w' := by
  go_enter Tryz.func24, Tryz.ntmps24
  go_wp2_with fail
  have H0 : ByteRel b s l c2 c3 c4 c5 w w := ⟨l, h, rfl, Fr.refl _ _⟩
  go_loopw [] (fun wr => ByteRel b s l c2 c3 c4 c5 w wr) (fun wr => s.size - posIn wr b)
  case atStart => exact H0
  case round =>
    clear H0
    obtain ⟨m, hR, hm, hF⟩ := hrel
    have k0 := cell_of hR.cells 0
    have k1 := cell_of hR.cells 1
    have z1 := frozen_of hR.cells 1
    simp only [List.getElem?_toArray, List.getElem?_cons_zero, List.getElem?_cons_succ] at k0 k1
    rcases m with _ | ⟨c, m⟩
    · have g0 : decide (((s.size - ([] : Bs).length : Nat) : Int) < (s.size : Int)) = false := by simp
      go_wp2
      go_quiet (fail)
      go_wp2
      go_quiet (fail)
      go_wp2
      go_ret
      exact ⟨by rw [← hm]; rfl, by rw [← hm]; exact (hR.drewN _).drewN _, (hF.drewN _).drewN _⟩
    · obtain ⟨p, hp1, hp2, hp3, hp4⟩ := hR.at
      rw [hp1] at k1
      have g0 : decide ((p : Int) < (s.size : Int)) = true := by simp; omega
      have g1 : (0 : Int) ≤ (p : Int) ∧ (p : Int) < (s.size : Int) := by omega
      have hc : c.toNat < 256 := c.toNat_lt
      by_cases q1 : c = 32
      · have g2 : ((c.toNat : Int) == 32) = true := by subst q1; rfl
        go_wp2
        go_quiet (fail)
        go_wp2
        have hR2 : Rd ((wr.drewN nq).setCell ⟨b, 1, none⟩ (.int .i64 (wrap64 ((p : Int) + 1)))) b s m c2 c3 c4 c5 := (hR.drewN nq).set (List.suffix_cons c m) (by rw [hp2]; exact wrap_next hp3 hR.short)
        exact ⟨⟨m, hR2, by rw [← hm, skipL_cons, if_pos (by simp [*])], (hF.drewN nq).setCell1 1 _⟩, by have e1 := posIn_set hR2; have e2 := posIn_set hR; rw [hp2] at e1; rw [hp1] at e2; rw [e1, e2]; omega⟩
      have g2 : ((c.toNat : Int) == 32) = false := by
        simp only [beq_eq_false_iff_ne, ne_eq]
        intro e
        exact q1 (UInt8.toNat_inj.1 (by exact_mod_cast e))
      by_cases q2 : c = 9
      · have g3 : ((c.toNat : Int) == 9) = true := by subst q2; rfl
        go_wp2
        go_quiet (fail)
        go_wp2
        have hR2 : Rd ((wr.drewN nq).setCell ⟨b, 1, none⟩ (.int .i64 (wrap64 ((p : Int) + 1)))) b s m c2 c3 c4 c5 := (hR.drewN nq).set (List.suffix_cons c m) (by rw [hp2]; exact wrap_next hp3 hR.short)
        exact ⟨⟨m, hR2, by rw [← hm, skipL_cons, if_pos (by simp [*])], (hF.drewN nq).setCell1 1 _⟩, by have e1 := posIn_set hR2; have e2 := posIn_set hR; rw [hp2] at e1; rw [hp1] at e2; rw [e1, e2]; omega⟩
      · have g3 : ((c.toNat : Int) == 9) = false := by
          simp only [beq_eq_false_iff_ne, ne_eq]
          intro e
          exact q2 (UInt8.toNat_inj.1 (by exact_mod_cast e))
        go_wp2
        go_quiet (fail)
        go_wp2
        go_quiet (fail)
        go_wp2
        go_quiet (fail)
        go_wp2
        go_ret
        have hz : skipL l = c :: m := by rw [← hm, skipL_cons, if_neg (by simp [*])]
        exact ⟨by rw [hz, ← hp4]; rfl, by rw [hz]; exact ((hR.drewN _).drewN _).drewN _, ((hF.drewN _).drewN _).drewN _⟩
end Go.Proofs.YtaniaknphjnlkaaGreatDoor
