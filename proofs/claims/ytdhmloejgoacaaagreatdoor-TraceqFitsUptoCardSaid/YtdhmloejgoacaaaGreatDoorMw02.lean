/- The reader of queries: what it holds; the walks of byte, take, bad. -/
import Derived.Test.YtdhmloejgoacaaaGreatDoorProg
import Derived.Test.YtdhmloejgoacaaaGreatDoorMw00
import Derived.Test.YtdhmloejgoacaaaGreatDoorLqPure
import Derived.Deep.QuietTactic
import Derived.BigQuiet
import Derived.RegionTactic
import Derived.ChangeAlike
import Derived.StillTailTactics
import Derived.Lib.Hide
import Derived.Outline
import Derived.Deep.Quiet
import Derived.Laws.StructEq
import Derived.Carry
set_option linter.unusedVariables false
set_option linter.unusedSimpArgs false
namespace Go.Proofs.YtdhmloejgoacaaaGreatDoor
open Go.RowKit Go.Bl Go.Lq

/-- The reader at b reads s, of which l is left; its other cells. -/
structure Rd (w : World) (b : Nat) (s : ByteArray) (l : Bs) (c2 c3 c4 c5 : Value) : Prop where
  cells : w.heap[b]? = some (.cells #[.string s, .int .i64 ((s.size - l.length : Nat) : Int), c2, c3, c4, c5] 66 (0, 0))
  suf : l <:+ s.data.toList
  short : s.size ≤ 1024

/-- A string of bytes, its place behind which l is left. -/
theorem Rd.at {w : World} {b : Nat} {s : ByteArray} {c : UInt8} {l : Bs} {c2 c3 c4 c5 : Value} (h : Rd w b s (c :: l) c2 c3 c4 c5) :
    ∃ p, s.size - (c :: l).length = p ∧ s.size - l.length = p + 1 ∧ ∃ hp : p < s.size, s[p] = c := by
  obtain ⟨t, ht⟩ := h.suf
  have hl : s.data.toList.length = s.size := by cases s; rfl
  have h1 : t.length + (l.length + 1) = s.size := by rw [← hl, ← ht]; simp
  refine ⟨t.length, by simp; omega, by omega, by omega, ?_⟩
  have : s.data.toList[t.length]? = some c := by rw [← ht]; simp
  have h2 : s[t.length]'(by omega) = s.data.toList[t.length]'(by rw [hl]; omega) := by cases s; rfl
  rw [h2]
  exact (List.getElem?_eq_some_iff.1 this).2
theorem skipL_cons (c : UInt8) (l : Bs) : skipL (c :: l) = if c = 32 ∨ c = 9 then skipL l else c :: l := by
  unfold skipL
  rw [List.dropWhile_cons]
  simp [isBlank]
theorem Rd.fr {S : List Nat} {w w' : World} {b : Nat} {s : ByteArray} {l : Bs} {c2 c3 c4 c5 : Value} (h : Rd w b s l c2 c3 c4 c5) (hF : Fr S w w') (hb : b ∉ S) : Rd w' b s l c2 c3 c4 c5 :=
  ⟨hF.obj h.cells hb, h.suf, h.short⟩
theorem Rd.drewN {w : World} {b : Nat} {s : ByteArray} {l : Bs} {c2 c3 c4 c5 : Value} (h : Rd w b s l c2 c3 c4 c5) (n : Nat) : Rd (w.drewN n) b s l c2 c3 c4 c5 := ⟨h.cells, h.suf, h.short⟩
/-- The reader is set on a later place. -/
theorem Rd.set {w : World} {b : Nat} {s : ByteArray} {l l' : Bs} {c2 c3 c4 c5 : Value} (h : Rd w b s l c2 c3 c4 c5) (hs : l' <:+ l) {i : Int} (hi : i = ((s.size - l'.length : Nat) : Int)) :
    Rd (w.setCell ⟨b, 1, none⟩ (.int .i64 i)) b s l' c2 c3 c4 c5 := by
  refine ⟨?_, hs.trans h.suf, h.short⟩
  rw [heap_setCell h.cells, hi]
  rfl
def posIn (w : World) (b : Nat) : Nat := match w.cell? ⟨b, 1, none⟩ with | some (.int _ i) => i.toNat | _ => 0
theorem posIn_set {w : World} {b : Nat} {s : ByteArray} {l : Bs} {c2 c3 c4 c5 : Value} (h : Rd w b s l c2 c3 c4 c5) : posIn w b = s.size - l.length := by
  unfold posIn
  rw [cell_of h.cells]
  simp
theorem wrap_next {p n : Nat} (h : p < n) (h2 : n ≤ 1024) : wrap64 ((p : Int) + 1) = ((p + 1 : Nat) : Int) := by
  unfold wrap64
  omega
def ByteRel (b : Nat) (s : ByteArray) (l : Bs) (c2 c3 c4 c5 : Value) (w wr : World) : Prop := ∃ m, Rd wr b s m c2 c3 c4 c5 ∧ skipL m = skipL l ∧ Fr [b] w wr

set_option maxRecDepth 100000 in
theorem byte_any (b : Nat) (s : ByteArray) (l : Bs) (c2 c3 c4 c5 : Value) (w : World) (h : Rd w b s l c2 c3 c4 c5) :
    Calls Tryz.prog 44 #[.pointer (some ⟨b, 0, none⟩)] w fun e w' =>
      e = .returned (.int .u8 (((skipL l).headD 0).toNat : Int)) ∧ Rd w' b s (skipL l) c2 c3 c4 c5 ∧ Fr [b] w w' := by
  go_enter Tryz.func44, Tryz.ntmps44
  go_wp2_with fail
  have H0 : ByteRel b s l c2 c3 c4 c5 w w := ⟨l, h, rfl, Fr.refl _ _⟩
  go_loopw [] (fun wr => ByteRel b s l c2 c3 c4 c5 w wr) (fun wr => s.size - posIn wr b)
  case atStart => exact H0
  case round =>
    clear H0
    obtain ⟨m, hR, hm, hF⟩ := hrel
    have k0 := cell_of hR.cells 0
    have k1 := cell_of hR.cells 1
    have z1 := frozen_of hR.cells 1
    simp only [List.getElem?_toArray, List.getElem?_cons_zero, List.getElem?_cons_succ] at k0 k1
    rcases m with _ | ⟨c, m⟩
    · have g0 : decide (((s.size - ([] : Bs).length : Nat) : Int) < (s.size : Int)) = false := by simp
      go_wp2
      go_quiet (fail)
      go_wp2
      go_quiet (fail)
      go_wp2
      go_ret
      exact ⟨by rw [← hm]; rfl, by rw [← hm]; exact (hR.drewN _).drewN _, (hF.drewN _).drewN _⟩
    · obtain ⟨p, hp1, hp2, hp3, hp4⟩ := hR.at
      rw [hp1] at k1
      have g0 : decide ((p : Int) < (s.size : Int)) = true := by simp; omega
      have g1 : (0 : Int) ≤ (p : Int) ∧ (p : Int) < (s.size : Int) := by omega
      have hc : c.toNat < 256 := c.toNat_lt
      by_cases q1 : c = 32
      · have g2 : ((c.toNat : Int) == 32) = true := by subst q1; rfl
        go_wp2
        go_quiet (fail)
        go_wp2
        have hR2 : Rd ((wr.drewN nq).setCell ⟨b, 1, none⟩ (.int .i64 (wrap64 ((p : Int) + 1)))) b s m c2 c3 c4 c5 := (hR.drewN nq).set (List.suffix_cons c m) (by rw [hp2]; exact wrap_next hp3 hR.short)
        exact ⟨⟨m, hR2, by rw [← hm, skipL_cons, if_pos (by simp [*])], (hF.drewN nq).setCell1 1 _⟩, by have e1 := posIn_set hR2; have e2 := posIn_set hR; rw [hp2] at e1; rw [hp1] at e2; rw [e1, e2]; omega⟩
      have g2 : ((c.toNat : Int) == 32) = false := by
        simp only [beq_eq_false_iff_ne, ne_eq]
        intro e
        exact q1 (UInt8.toNat_inj.1 (by exact_mod_cast e))
      by_cases q2 : c = 9
      · have g3 : ((c.toNat : Int) == 9) = true := by subst q2; rfl
        go_wp2
        go_quiet (fail)
        go_wp2
        have hR2 : Rd ((wr.drewN nq).setCell ⟨b, 1, none⟩ (.int .i64 (wrap64 ((p : Int) + 1)))) b s m c2 c3 c4 c5 := (hR.drewN nq).set (List.suffix_cons c m) (by rw [hp2]; exact wrap_next hp3 hR.short)
        exact ⟨⟨m, hR2, by rw [← hm, skipL_cons, if_pos (by simp [*])], (hF.drewN nq).setCell1 1 _⟩, by have e1 := posIn_set hR2; have e2 := posIn_set hR; rw [hp2] at e1; rw [hp1] at e2; rw [e1, e2]; omega⟩
      · have g3 : ((c.toNat : Int) == 9) = false := by
          simp only [beq_eq_false_iff_ne, ne_eq]
          intro e
          exact q2 (UInt8.toNat_inj.1 (by exact_mod_cast e))
        go_wp2
        go_quiet (fail)
        go_wp2
        go_quiet (fail)
        go_wp2
        go_quiet (fail)
        go_wp2
        go_ret
        have hz : skipL l = c :: m := by rw [← hm, skipL_cons, if_neg (by simp [*])]
        exact ⟨by rw [hz, ← hp4]; rfl, by rw [hz]; exact ((hR.drewN _).drewN _).drewN _, ((hF.drewN _).drewN _).drewN _⟩
end Go.Proofs.YtdhmloejgoacaaaGreatDoor
namespace Go.Proofs.YtdhmloejgoacaaaGreatDoor
open Go.RowKit Go.Bl Go.Lq

theorem bytes_len (s : ByteArray) : s.data.toList.length = s.size := by cases s; rfl
theorem drop_suf {l m : Bs} (h : l <:+ m) : m.drop (m.length - l.length) = l := by
  obtain ⟨t, rfl⟩ := h
  simp
theorem extract_list (s : ByteArray) (a b : Nat) : (s.extract a b).data.toList = (s.data.toList.drop a).take (b - a) := by
  simp [ByteArray.data_extract, List.extract_eq_take_drop]
theorem bs_ext {a b : ByteArray} (h : a.data.toList = b.data.toList) : a = b := by
  cases a; cases b; congr; exact Array.toList_inj.1 h
theorem beq_toList (a b : ByteArray) : (a.toList == b.toList) = decide (a.data.toList = b.data.toList) := by
  rw [ByteArray.toList_eq, ByteArray.toList_eq]
  rw [Bool.eq_iff_iff]
  simp only [beq_iff_eq, decide_eq_true_eq]
theorem prefix_take (x t : Bs) : t.isPrefixOf x = (decide (t.length ≤ x.length) && decide (x.take t.length = t)) := by
  by_cases h : t <+: x
  · rw [List.isPrefixOf_iff_prefix.2 h]
    have h1 := h.length_le
    have h2 : x.take t.length = t := (List.prefix_iff_eq_take.1 h).symm
    simp [h1, h2]
  · have h0 : t.isPrefixOf x = false := by
      rw [← Bool.not_eq_true, List.isPrefixOf_iff_prefix]
      exact h
    rw [h0]
    by_cases h1 : x.take t.length = t
    · exact absurd (List.prefix_iff_eq_take.2 h1.symm) h
    · simp [h1]
set_option maxRecDepth 100000 in
theorem hasPrefix_any (x t : ByteArray) (w : World) :
    Calls Tryz.prog 76 #[.string x, .string t] w fun e w' => e = .returned (.bool (t.data.toList.isPrefixOf x.data.toList)) ∧ w' = w := by
  go_enter Tryz.func76, Tryz.ntmps76
  go_wp2_with (go_at_call 101; go_in)
  · rename_i h
    go_ret
    refine ⟨ret_val (congrArg Value.bool ?_), rfl⟩
    show ((x.extract 0 t.size).toList == t.toList) = _
    rw [beq_toList, prefix_take, extract_list, bytes_len, bytes_len]
    simp [h]
  · rename_i h
    go_ret
    refine ⟨ret_val (congrArg Value.bool ?_), rfl⟩
    show false = _
    rw [prefix_take, bytes_len, bytes_len]
    simp [h]

theorem Rd.left {w : World} {b : Nat} {s : ByteArray} {l : Bs} {c2 c3 c4 c5 : Value} (h : Rd w b s l c2 c3 c4 c5) :
    l.length ≤ s.size ∧ (s.extract (s.size - l.length) s.size).data.toList = l := by
  have h1 := h.suf.length_le
  rw [bytes_len] at h1
  refine ⟨h1, ?_⟩
  rw [extract_list]
  have := drop_suf h.suf
  rw [bytes_len] at this
  rw [this]
  exact List.take_of_length_le (by omega)

set_option maxRecDepth 100000 in
theorem take_any (b : Nat) (s t : ByteArray) (l : Bs) (c2 c3 c4 c5 : Value) (ht : t.size ≤ 1024) (w : World) (hR : Rd w b s l c2 c3 c4 c5) :
    Calls Tryz.prog 45 #[.pointer (some ⟨b, 0, none⟩), .string t] w fun e w' =>
      e = .returned (.bool (takeL t.data.toList l).isSome) ∧ Rd w' b s ((takeL t.data.toList l).getD l) c2 c3 c4 c5 ∧ Fr [b] w w' := by
  have k0 := cell_of hR.cells 0
  have k1 := cell_of hR.cells 1
  have z1 := frozen_of hR.cells 1
  simp only [List.getElem?_toArray, List.getElem?_cons_zero, List.getElem?_cons_succ] at k0 k1
  obtain ⟨hl, hx⟩ := hR.left
  have hsh := hR.short
  obtain ⟨v, hv⟩ : ∃ v, t.data.toList.isPrefixOf l = v := ⟨_, rfl⟩
  have hcall : ∀ w, Calls Tryz.prog 76 #[.string (s.extract (s.size - l.length) s.size), .string t] w fun e w' => e = .returned (.bool v) ∧ w' = w := by
    intro w
    have := hasPrefix_any (s.extract (s.size - l.length) s.size) t w
    rw [hx, hv] at this
    exact this
  have htl : takeL t.data.toList l = if v then some (l.drop t.size) else none := by
    unfold takeL
    rw [hv, bytes_len]
  rw [htl]
  go_enter Tryz.func45, Tryz.ntmps45
  cases v
  · go_wp2_with fail
    go_quiet ((go_at_call 76; exact Calls.quiet_of_same (hcall _)))
    go_wp2_with fail
    go_ret
    exact ⟨rfl, hR.drewN _, (Fr.refl _ _).drewN _⟩
  · have hle : t.size ≤ l.length := by
      have := (List.isPrefixOf_iff_prefix.1 hv).length_le
      rwa [bytes_len] at this
    go_wp2_with fail
    go_quiet ((go_at_call 76; exact Calls.quiet_of_same (hcall _)))
    go_wp2_with fail
    go_ret
    refine ⟨rfl, (hR.drewN nq).set (List.drop_suffix _ _) ?_, ((Fr.refl _ _).drewN _).setCell1 1 _⟩
    simp
    omega
end Go.Proofs.YtdhmloejgoacaaaGreatDoor
namespace Go.Proofs.YtdhmloejgoacaaaGreatDoor
open Go.RowKit Go.Bl Go.Lq
set_option maxRecDepth 100000 in
theorem neq56 (a b : Int) (k1 k2 v1 v2 : ByteArray) (w : World) : (binOp .neq 74 (.agg #[.int .i64 a, .string k1, .string v1]) (.agg #[.int .i64 b, .string k2, .string v2])).run Tryz.prog w = .ok (.bool (!((a == b) && ((k1.toList == k2.toList) && (v1.toList == v2.toList))))) w := by
  rw [run_neq_struct, run_equalIn_struct w 9999 74 _ _ (by kernel_rfl) (by kernel_rfl)]
  obtain ⟨fs, hfs⟩ : ∃ fs, (Tryz.prog.fieldsOf 74).toList = fs := ⟨_, rfl⟩
  have hu := Tryz.underlying74
  unfold Program.fieldsOf at hfs ⊢
  simp [hu, Op.eqFields, go_sem]
  by_cases h1 : a = b
  · by_cases h2 : k1.toList = k2.toList
    · by_cases h3 : v1.toList = v2.toList
      · simp [h1, h2, h3]
      · simp [h1, h2, h3]
    · simp [h1, h2]
  · simp [h1]
end Go.Proofs.YtdhmloejgoacaaaGreatDoor
namespace Go.Proofs.YtdhmloejgoacaaaGreatDoor
open Go.RowKit Go.Bl Go.Lq

/-- The reader (of type T) at b reads s, of which l is left; d: it can not go on. -/
structure Ar (T : Nat) (w : World) (b : Nat) (s : ByteArray) (l : Bs) (d : Bool) : Prop where
  cells : w.heap[b]? = some (.cells #[.string s, .int .i64 ((s.size - l.length : Nat) : Int), .bool d] T (0, 0))
  suf : l <:+ s.data.toList
  short : s.size ≤ 65536
theorem Ar.at {T : Nat} {w : World} {b : Nat} {s : ByteArray} {c : UInt8} {l : Bs} {d : Bool} (h : Ar T w b s (c :: l) d) :
    ∃ p, s.size - (c :: l).length = p ∧ s.size - l.length = p + 1 ∧ ∃ hp : p < s.size, s[p] = c := by
  obtain ⟨t, ht⟩ := h.suf
  have hl : s.data.toList.length = s.size := by cases s; rfl
  have h1 : t.length + (l.length + 1) = s.size := by rw [← hl, ← ht]; simp
  refine ⟨t.length, by simp; omega, by omega, by omega, ?_⟩
  have : s.data.toList[t.length]? = some c := by rw [← ht]; simp
  have h2 : s[t.length]'(by omega) = s.data.toList[t.length]'(by rw [hl]; omega) := by cases s; rfl
  rw [h2]
  exact (List.getElem?_eq_some_iff.1 this).2
theorem Ar.left {T : Nat} {w : World} {b : Nat} {s : ByteArray} {l : Bs} {d : Bool} (h : Ar T w b s l d) :
    l.length ≤ s.size ∧ (s.extract (s.size - l.length) s.size).data.toList = l := by
  have h1 := h.suf.length_le
  rw [bytes_len] at h1
  refine ⟨h1, ?_⟩
  rw [extract_list]
  have := drop_suf h.suf
  rw [bytes_len] at this
  rw [this]
  exact List.take_of_length_le (by omega)
theorem Ar.fr {T : Nat} {S : List Nat} {w w' : World} {b : Nat} {s : ByteArray} {l : Bs} {d : Bool} (h : Ar T w b s l d) (hF : Fr S w w') (hb : b ∉ S) : Ar T w' b s l d :=
  ⟨hF.obj h.cells hb, h.suf, h.short⟩
theorem Ar.drewN {T : Nat} {w : World} {b : Nat} {s : ByteArray} {l : Bs} {d : Bool} (h : Ar T w b s l d) (n : Nat) : Ar T (w.drewN n) b s l d := ⟨h.cells, h.suf, h.short⟩
theorem Ar.drew {T : Nat} {w : World} {b : Nat} {s : ByteArray} {l : Bs} {d : Bool} (h : Ar T w b s l d) : Ar T w.drew b s l d := ⟨h.cells, h.suf, h.short⟩
/-- The reader is set on a later place. -/
theorem Ar.set {T : Nat} {w : World} {b : Nat} {s : ByteArray} {l l' : Bs} {d : Bool} (h : Ar T w b s l d) (hs : l' <:+ l) {i : Int} (hi : i = ((s.size - l'.length : Nat) : Int)) :
    Ar T (w.setCell ⟨b, 1, none⟩ (.int .i64 i)) b s l' d := by
  refine ⟨?_, hs.trans h.suf, h.short⟩
  rw [heap_setCell h.cells, hi]
  rfl
theorem Ar.flag {T : Nat} {w : World} {b : Nat} {s : ByteArray} {l : Bs} {d : Bool} (h : Ar T w b s l d) (d' : Bool) :
    Ar T (w.setCell ⟨b, 2, none⟩ (.bool d')) b s l d' := by
  refine ⟨?_, h.suf, h.short⟩
  rw [heap_setCell h.cells]
  rfl
def posA (w : World) (b : Nat) : Nat := match w.cell? ⟨b, 1, none⟩ with | some (.int _ i) => i.toNat | _ => 0
theorem posA_set {T : Nat} {w : World} {b : Nat} {s : ByteArray} {l : Bs} {d : Bool} (h : Ar T w b s l d) : posA w b = s.size - l.length := by
  unfold posA
  rw [cell_of h.cells]
  simp
theorem posA_less {T : Nat} {w w' : World} {b : Nat} {s : ByteArray} {l l' : Bs} {d d' : Bool} (h : Ar T w b s l d) (h' : Ar T w' b s l' d') (hl : l'.length < l.length) : s.size - posA w' b < s.size - posA w b := by
  rw [posA_set h, posA_set h']
  have := h.left.1
  omega
theorem wrap_nextA {p n : Nat} (h : p < n) (h2 : n ≤ 65536) : wrap64 ((p : Int) + 1) = ((p + 1 : Nat) : Int) := by
  unfold wrap64
  omega
abbrev TA : Nat := 291

theorem u8_ne {c : UInt8} {n : Nat} (hn : n < 256) (h : ¬ c = UInt8.ofNat n) : ((c.toNat : Int) == (n : Int)) = false := by
  simp only [beq_eq_false_iff_ne, ne_eq]
  intro e
  apply h
  have : c.toNat = n := by exact_mod_cast e
  rw [← this, UInt8.ofNat_toNat]

set_option maxRecDepth 100000 in
theorem peekA (b : Nat) (s : ByteArray) (l : Bs) (d : Bool) (w : World) (h : Ar 291 w b s l d) :
    Calls Tryz.prog 224 #[.pointer (some ⟨b, 0, none⟩)] w fun e w' =>
      e = .returned (.int .u8 ((l.headD 0).toNat : Int)) ∧ ∃ n, w' = w.drewN n := by
  have k0 := cell_of h.cells 0
  have k1 := cell_of h.cells 1
  simp only [List.getElem?_toArray, List.getElem?_cons_zero, List.getElem?_cons_succ] at k0 k1
  go_enter Tryz.func224, Tryz.ntmps224
  rcases l with _ | ⟨c, m⟩
  · have g0 : decide (((s.size - ([] : Bs).length : Nat) : Int) < (s.size : Int)) = false := by simp
    go_wp2
    go_quiet (fail)
    go_wp2
    go_ret
    exact ⟨rfl, _, rfl⟩
  · obtain ⟨p, hp1, hp2, hp3, hp4⟩ := h.at
    rw [hp1] at k1
    have g0 : decide ((p : Int) < (s.size : Int)) = true := by simp; omega
    have g1 : (0 : Int) ≤ (p : Int) ∧ (p : Int) < (s.size : Int) := by omega
    go_wp2
    go_quiet (fail)
    go_wp2
    go_quiet (fail)
    go_wp2
    go_ret
    refine ⟨?_, by rw [World.drewN_drewN]; exact ⟨_, rfl⟩⟩
    rw [← hp4]; rfl
def BlRel (b : Nat) (s : ByteArray) (l : Bs) (d : Bool) (w wr : World) : Prop := ∃ m, Ar 291 wr b s m d ∧ skipL m = skipL l ∧ Fr [b] w wr

set_option maxRecDepth 100000 in
theorem blanksA (b : Nat) (s : ByteArray) (l : Bs) (d : Bool) (w : World) (h : Ar 291 w b s l d) :
    Calls Tryz.prog 225 #[.pointer (some ⟨b, 0, none⟩)] w fun e w' =>
      e = .returned (.tuple #[]) ∧ Ar 291 w' b s (skipL l) d ∧ Fr [b] w w' := by
  go_enter Tryz.func225, Tryz.ntmps225
  go_wp2_with fail
  have H0 : BlRel b s l d w w := ⟨l, h, rfl, Fr.refl _ _⟩
  go_loopw [] (fun wr => BlRel b s l d w wr) (fun wr => s.size - posA wr b)
  case atStart => exact H0
  case round =>
    clear H0
    obtain ⟨m, hR, hm, hF⟩ := hrel
    go_wp2_with fail
    refine (peekA b s m d _ hR).mono ?_
    rintro e w1 ⟨rfl, n1, rfl⟩
    rcases m with _ | ⟨c, m⟩
    · go_wp2_with fail
      refine (peekA b s [] d _ (hR.drewN _)).mono ?_
      rintro e w2 ⟨rfl, n2, rfl⟩
      go_wp2_with fail
      exact ⟨rfl, .tuple #[], by simp [results, Tryz.results225, go_sem], rfl, by rw [← hm]; exact hR.drewN _, hF.drewN _⟩
    · obtain ⟨p, hp1, hp2, hp3, hp4⟩ := hR.at
      have k1 := cell_of hR.cells 1
      have z1 := frozen_of hR.cells 1
      simp only [List.getElem?_toArray, List.getElem?_cons_zero, List.getElem?_cons_succ] at k1
      rw [hp1] at k1
      have hsh := hR.short
      have hd : ((c :: m).headD 0) = c := rfl
      rw [hd]
      by_cases q1 : c = 32
      · have g2 : ((c.toNat : Int) == 32) = true := by subst q1; rfl
        go_wp2_with fail
        have hR2 : ∀ W, Ar 291 W b s (c :: m) d → Ar 291 (W.setCell ⟨b, 1, none⟩ (.int .i64 ((p : Int) + 1))) b s m d := fun W h => h.set (List.suffix_cons c m) (by rw [hp2]; rfl)
        exact ⟨⟨m, hR2 _ (hR.drewN _), by rw [← hm, skipL_cons, if_pos (by simp [*])], (hF.drewN _).setCell1 1 _⟩, posA_less hR (hR2 _ (hR.drewN _)) (by simp)⟩
      have g2 : ((c.toNat : Int) == 32) = false := u8_ne (n := 32) (by omega) q1
      by_cases q2 : c = 9
      · have g3 : ((c.toNat : Int) == 9) = true := by subst q2; rfl
        go_wp2_with fail
        refine (peekA b s (c :: m) d _ (hR.drewN _)).mono ?_
        rintro e w2 ⟨rfl, n2, rfl⟩
        rw [hd]
        go_wp2_with fail
        have hR2 : ∀ W, Ar 291 W b s (c :: m) d → Ar 291 (W.setCell ⟨b, 1, none⟩ (.int .i64 ((p : Int) + 1))) b s m d := fun W h => h.set (List.suffix_cons c m) (by rw [hp2]; rfl)
        exact ⟨⟨m, hR2 _ (hR.drewN _), by rw [← hm, skipL_cons, if_pos (by simp [*])], (hF.drewN _).setCell1 1 _⟩, posA_less hR (hR2 _ (hR.drewN _)) (by simp)⟩
      · have g3 : ((c.toNat : Int) == 9) = false := u8_ne (n := 9) (by omega) q2
        go_wp2_with fail
        refine (peekA b s (c :: m) d _ (hR.drewN _)).mono ?_
        rintro e w2 ⟨rfl, n2, rfl⟩
        rw [hd]
        go_wp2_with fail
        have hz : skipL l = c :: m := by rw [← hm, skipL_cons, if_neg (by simp [*])]
        exact ⟨rfl, .tuple #[], by simp [results, Tryz.results225, go_sem], rfl, by rw [hz]; exact hR.drewN _, hF.drewN _⟩

set_option maxRecDepth 100000 in
theorem takeA (b : Nat) (s t : ByteArray) (l : Bs) (d : Bool) (ht : t.size ≤ 1024) (w : World) (hR : Ar 291 w b s l d) :
    Calls Tryz.prog 226 #[.pointer (some ⟨b, 0, none⟩), .string t] w fun e w' =>
      e = .returned (.bool (!d && (takeL t.data.toList l).isSome)) ∧ Ar 291 w' b s (if d then l else (takeL t.data.toList l).getD l) d ∧ Fr [b] w w' := by
  have k0 := cell_of hR.cells 0
  have k1 := cell_of hR.cells 1
  have k2 := cell_of hR.cells 2
  have z1 := frozen_of hR.cells 1
  simp only [List.getElem?_toArray, List.getElem?_cons_zero, List.getElem?_cons_succ] at k0 k1 k2
  obtain ⟨hl, hx⟩ := hR.left
  have hsh := hR.short
  obtain ⟨v, hv⟩ : ∃ v, t.data.toList.isPrefixOf l = v := ⟨_, rfl⟩
  have hcall : ∀ w, Calls Tryz.prog 76 #[.string (s.extract (s.size - l.length) s.size), .string t] w fun e w' => e = .returned (.bool v) ∧ w' = w := by
    intro w
    have := hasPrefix_any (s.extract (s.size - l.length) s.size) t w
    rw [hx, hv] at this
    exact this
  have htl : takeL t.data.toList l = if v then some (l.drop t.size) else none := by
    unfold takeL
    rw [hv, bytes_len]
  rw [htl]
  go_enter Tryz.func226, Tryz.ntmps226
  cases d
  · cases v
    · go_wp2_with fail
      go_quiet ((go_at_call 76; exact Calls.quiet_of_same (hcall _)))
      go_wp2_with fail
      go_ret
      exact ⟨rfl, hR.drewN _, (Fr.refl _ _).drewN _⟩
    · have hle : t.size ≤ l.length := by
        have := (List.isPrefixOf_iff_prefix.1 hv).length_le
        rwa [bytes_len] at this
      go_wp2_with fail
      go_quiet ((go_at_call 76; exact Calls.quiet_of_same (hcall _)))
      go_wp2_with fail
      go_ret
      refine ⟨rfl, (hR.drewN nq).set (List.drop_suffix _ _) ?_, ((Fr.refl _ _).drewN _).setCell1 1 _⟩
      simp
      omega
  · go_wp2_with fail
    go_quiet ((go_at_call 76; exact Calls.quiet_of_same (hcall _)))
    go_wp2_with fail
    go_ret
    exact ⟨rfl, hR.drewN _, (Fr.refl _ _).drewN _⟩

set_option maxRecDepth 100000 in
theorem needA (b : Nat) (s t : ByteArray) (l : Bs) (d : Bool) (ht : t.size ≤ 1024) (w : World) (hR : Ar 291 w b s l d) :
    Calls Tryz.prog 223 #[.pointer (some ⟨b, 0, none⟩), .string t] w fun e w' =>
      e = .returned (.tuple #[]) ∧ Ar 291 w' b s (if d then l else (takeL t.data.toList l).getD l) (d || !(takeL t.data.toList l).isSome) ∧ Fr [b] w w' := by
  go_enter Tryz.func223, Tryz.ntmps223
  go_wp2_with fail
  refine (takeA b s t l d ht _ hR).mono ?_
  rintro e w1 ⟨rfl, hR1, hF1⟩
  have k2 := cell_of hR1.cells 2
  have z2 := frozen_of hR1.cells 2
  simp only [List.getElem?_toArray, List.getElem?_cons_zero, List.getElem?_cons_succ] at k2
  obtain ⟨v, hv⟩ : ∃ v, takeL t.data.toList l = v := ⟨_, rfl⟩
  rw [hv] at hR1
  cases d <;> cases v
  all_goals
    go_wp2_with fail
    exact ⟨rfl, .tuple #[], by simp [results, Tryz.results223, go_sem], rfl, (by first | exact hR1.flag _ | (rw [hv]; exact hR1.flag _)), hF1.setCell1 2 _⟩
end Go.Proofs.YtdhmloejgoacaaaGreatDoor
namespace Go.Proofs.YtdhmloejgoacaaaGreatDoor
open Go.RowKit Go.Bl Go.Lq
set_option maxRecDepth 100000 in
theorem sign_any (n : Int) (w : World) : Calls Tryz.prog 102 #[.int .i64 n] w fun e w' => e = .returned (.string ⟨(signP n).toArray⟩) ∧ w' = w := by
  by_cases h1 : n = 1
  · subst h1
    go_enter Tryz.func102, Tryz.ntmps102
    go_wp2
    go_ret
    exact ⟨rfl, rfl⟩
  · by_cases h2 : n = 2
    · subst h2
      go_enter Tryz.func102, Tryz.ntmps102
      go_wp2
      go_ret
      exact ⟨rfl, rfl⟩
    · by_cases h3 : n = 3
      · subst h3
        go_enter Tryz.func102, Tryz.ntmps102
        go_wp2
        go_ret
        exact ⟨rfl, rfl⟩
      · by_cases h4 : n = 4
        · subst h4
          go_enter Tryz.func102, Tryz.ntmps102
          go_wp2
          go_ret
          exact ⟨rfl, rfl⟩
        · have e1 : (n == 1) = false := by simpa using h1
          have e2 : (n == 2) = false := by simpa using h2
          have e3 : (n == 3) = false := by simpa using h3
          have e4 : (n == 4) = false := by simpa using h4
          have es : signP n = [] := by unfold signP; rw [if_neg h1, if_neg h2, if_neg h3, if_neg h4]
          rw [es]
          clear es h1 h2 h3 h4
          go_enter Tryz.func102, Tryz.ntmps102
          go_wp2
          go_ret
          exact ⟨rfl, rfl⟩
end Go.Proofs.YtdhmloejgoacaaaGreatDoor
namespace Go.Proofs.YtdhmloejgoacaaaGreatDoor
open Go.RowKit Go.Bl Go.Lq

def lit1 : Array MapEntry := #[{ key := .bool true, val := .string ⟨#[124, 61, 32]⟩, born := 0 }]
def lit2 : Array MapEntry := #[{ key := .bool true, val := .string ⟨#[124, 61, 32]⟩, born := 0 }, { key := .bool false, val := .string ⟨#[33, 61, 32]⟩, born := 1 }]
theorem run_checkKey_bool (em : Bool) (w : World) (b : Bool) : (Instr.checkKey em 10000 4 (.bool b)).run Tryz.prog w = .ok () w := by
  unfold Instr.checkKey
  simp [run_underlying Tryz.underlying4, Result.andThen]
theorem put_lit1 {w : World} {H : Nat} (hm : w.heap[H]? = some (.map #[] 0)) : (Instr.mapUpdate 110 (.map (some H)) (.bool true) (.string ⟨#[124, 61, 32]⟩)).run Tryz.prog w = .ok () (w.put H (.map lit1 1)) := by
  simp [Instr.mapUpdate, run_underlying Tryz.underlying110, MapKept.run_getObj_map hm, run_checkKey_bool, Instr.findKey, run_underlying Tryz.underlying4, Instr.findNow, MapKept.run_setObj_map _ hm, Result.andThen, World.put, lit1]
theorem put_lit2 {w : World} {H : Nat} (hm : w.heap[H]? = some (.map lit1 1)) : (Instr.mapUpdate 110 (.map (some H)) (.bool false) (.string ⟨#[33, 61, 32]⟩)).run Tryz.prog w = .ok () (w.put H (.map lit2 2)) := by
  simp [Instr.mapUpdate, run_underlying Tryz.underlying110, MapKept.run_getObj_map hm, run_checkKey_bool, Instr.findKey, run_underlying Tryz.underlying4, Instr.findNow, Instr.sameNow, MapKept.run_setObj_map _ hm, Result.andThen, World.put, lit1, lit2]
theorem get_lit {w : World} {H : Nat} (hm : w.heap[H]? = some (.map lit2 2)) (b : Bool) : (Instr.lookup 110 (.map (some H)) (.bool b) false).run Tryz.prog w = .ok (.string (if b then ⟨#[124, 61, 32]⟩ else ⟨#[33, 61, 32]⟩)) w := by
  cases b <;> simp [Instr.lookup, run_underlying Tryz.underlying110, MapKept.run_getObj_map hm, run_checkKey_bool, Instr.findKey, run_underlying Tryz.underlying4, Instr.findNow, Instr.sameNow, Result.andThen, lit2]
end Go.Proofs.YtdhmloejgoacaaaGreatDoor
