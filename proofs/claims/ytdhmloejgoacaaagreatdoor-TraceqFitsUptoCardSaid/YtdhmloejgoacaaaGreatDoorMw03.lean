/- The reader gives up (bad); a quoted text; a key; an operator. -/
import Derived.Test.YtdhmloejgoacaaaGreatDoorMw02
import Derived.WalkLawsBesides
import Derived.WalkMore
import Derived.Deep.LoopGhost
set_option linter.unusedVariables false
set_option linter.unusedSimpArgs false
namespace Go.Proofs.YtdhmloejgoacaaaGreatDoor
open Go.RowKit Go.Bl Go.Lq

abbrev stopAt (s : ByteArray) (r : Bs) : Ending := .panicked [{ v := .iface 62 (.int .i64 ((s.size - r.length : Nat) : Int)), recovered := false }]
set_option maxRecDepth 100000 in
theorem bad_any (b : Nat) (s : ByteArray) (l : Bs) (c2 c3 c4 c5 : Value) (w : World) (hR : Rd w b s l c2 c3 c4 c5) :
    Calls Tryz.prog 46 #[.pointer (some ⟨b, 0, none⟩)] w fun e w' => e = stopAt s l ∧ w' = w := by
  have k1 := cell_of hR.cells 1
  simp only [List.getElem?_toArray, List.getElem?_cons_zero, List.getElem?_cons_succ] at k1
  go_enter Tryz.func46, Tryz.ntmps46
  go_wp2_with fail
  exact ⟨rfl, rfl, rfl⟩

/-- What a reading function leaves: the value and the reader behind it, or the panic. -/
def Reads {α : Type} (b : Nat) (s : ByteArray) (c2 c3 c4 c5 : Value) (pr : PR α) (val : α → Value) (w : World) (e : Ending) (w' : World) : Prop :=
  Fr [b] w w' ∧ match pr with
    | .ok v r => e = .returned (val v) ∧ Rd w' b s r c2 c3 c4 c5
    | .bad r => e = stopAt s r

def KeyRel (b : Nat) (s : ByteArray) (m : Bs) (q : Nat) (c2 c3 c4 c5 : Value) (w wr : World) : Prop :=
  ∃ a r, Rd wr b s r c2 c3 c4 c5 ∧ m = a ++ r ∧ s.size - r.length = q + a.length ∧ (a = [] ∨ ∃ c t, a = c :: t ∧ isHead c = true ∧ t.all isTail = true) ∧ Fr [b] w wr
theorem u8_all {P : UInt8 → Prop} (h : ∀ n : Fin 256, P (UInt8.ofNat n.val)) (c : UInt8) : P c := by
  have h1 := h ⟨c.toNat, c.toNat_lt⟩
  rwa [UInt8.ofNat_toNat] at h1
set_option maxRecDepth 100000 in
theorem head_or (c : UInt8) : isHead c = (decide (97 ≤ (c ||| 32).toNat ∧ (c ||| 32).toNat ≤ 122) || decide (c = 95)) := by
  revert c; refine u8_all ?_; decide
set_option maxRecDepth 100000 in
theorem bits_or (c : UInt8) : bits BinOp.or IntKind.u8 (c.toNat : Int) 32 = (((c ||| 32).toNat : Nat) : Int) := by
  revert c; refine u8_all ?_; decide
theorem beq_u8 (c : UInt8) (n : Nat) (hn : n < 256) : ((c.toNat : Int) == (n : Int)) = decide (c = UInt8.ofNat n) := by
  rw [Bool.eq_iff_iff]
  simp only [beq_iff_eq, decide_eq_true_eq]
  rw [← UInt8.toNat_inj, UInt8.toNat_ofNat_of_lt' hn]
  omega
def keyM : Bs → PR Bs
  | [] => .bad []
  | c :: cs => if isHead c then .ok (c :: cs.takeWhile isTail) (cs.dropWhile isTail) else .bad (c :: cs)
theorem keyL_of {l m : Bs} (h : skipL l = m) : keyL l = keyM m := by subst h; rfl
/-- The word that the reader has passed over. -/
theorem Rd.word {w : World} {b : Nat} {s : ByteArray} {a r : Bs} {q : Nat} {c2 c3 c4 c5 : Value} (h : Rd w b s r c2 c3 c4 c5) (hs : (a ++ r) <:+ s.data.toList) (hq : s.size - r.length = q + a.length) (hq2 : q = s.size - (a ++ r).length) :
    s.extract q (q + a.length) = ⟨a.toArray⟩ := by
  apply bs_ext
  rw [extract_list]
  have := drop_suf hs
  rw [bytes_len, ← hq2] at this
  rw [this]
  simp
theorem keyM_word {d : UInt8} {t r : Bs} (hd : isHead d = true) (ht : t.all isTail = true) (hr : ∀ c ∈ r.head?, isTail c = false) : keyM ((d :: t) ++ r) = .ok (d :: t) r := by
  rw [List.cons_append]
  show (if isHead d then (PR.ok (d :: (t ++ r).takeWhile isTail) ((t ++ r).dropWhile isTail) : PR Bs) else .bad _) = _
  rw [if_pos hd]
  have h1 : (t ++ r).takeWhile isTail = t ∧ (t ++ r).dropWhile isTail = r := by
    clear hd
    induction t with
    | nil =>
      cases r with
      | nil => simp
      | cons c r => simp [hr c (by simp)]
    | cons e t ih =>
      simp only [List.all_cons, Bool.and_eq_true] at ht
      have := ih ht.2
      simp [ht.1, this.1, this.2]
  rw [h1.1, h1.2]
theorem Reads.ok {α : Type} {b : Nat} {s : ByteArray} {c2 c3 c4 c5 : Value} {pr : PR α} {val : α → Value} {w w' : World} {v : α} {r : Bs} {x : Value} (hF : Fr [b] w w') (hp : pr = .ok v r) (hx : x = val v) (hR : Rd w' b s r c2 c3 c4 c5) :
    Reads b s c2 c3 c4 c5 pr val w (.returned x) w' := by
  refine ⟨hF, ?_⟩
  rw [hp, hx]
  exact ⟨rfl, hR⟩
theorem Reads.bad {α : Type} {b : Nat} {s : ByteArray} {c2 c3 c4 c5 : Value} {pr : PR α} {val : α → Value} {w w' : World} {r : Bs} {p : Nat} (hF : Fr [b] w w') (hp : pr = .bad r) (hx : s.size - r.length = p) :
    Reads b s c2 c3 c4 c5 pr val w (.panicked [{ v := .iface 62 (.int .i64 (p : Int)), recovered := false }]) w' := by
  refine ⟨hF, ?_⟩
  rw [hp, ← hx]
/-- One byte more of the word. -/
theorem KeyRel.next {b : Nat} {s : ByteArray} {m a r : Bs} {c : UInt8} {p q : Nat} {c2 c3 c4 c5 : Value} {w wr : World} {n : Nat} (hR2 : Rd wr b s (c :: r) c2 c3 c4 c5) (hma : m = a ++ c :: r) (hp1 : s.size - (c :: r).length = p) (hp2 : s.size - r.length = p + 1) (hp3 : p < s.size)
    (hqa : p = q + a.length) (ha : a = [] ∧ isHead c = true ∨ ∃ d t, a = d :: t ∧ isHead d = true ∧ t.all isTail = true ∧ isTail c = true) (hF : Fr [b] w wr) {i : Int} (hi : i = ((p + 1 : Nat) : Int)) :
    KeyRel b s m q c2 c3 c4 c5 w ((wr.drewN n).setCell ⟨b, 1, none⟩ (.int .i64 i)) ∧
      s.size - posIn ((wr.drewN n).setCell ⟨b, 1, none⟩ (.int .i64 i)) b < s.size - posIn wr b := by
  subst hi
  have hR3 : Rd ((wr.drewN n).setCell ⟨b, 1, none⟩ (.int .i64 ((p + 1 : Nat) : Int))) b s r c2 c3 c4 c5 := (hR2.drewN n).set (List.suffix_cons c r) (by rw [hp2])
  refine ⟨⟨a ++ [c], r, hR3, by simp [hma], by simp; omega, .inr ?_, (hF.drewN n).setCell1 1 _⟩, by have e1 := posIn_set hR3; have e2 := posIn_set hR2; rw [hp2] at e1; rw [hp1] at e2; rw [e1, e2]; omega⟩
  rcases ha with ⟨rfl, h⟩ | ⟨d, t, rfl, h1, h2, h3⟩
  · exact ⟨c, [], rfl, h, rfl⟩
  · exact ⟨d, t ++ [c], rfl, h1, by simp [h2, h3]⟩
theorem word_head {a : Bs} {c : UInt8} (ha : a = [] ∨ ∃ c t, a = c :: t ∧ isHead c = true ∧ t.all isTail = true) (hc : isHead c = true) :
    a = [] ∧ isHead c = true ∨ ∃ d t, a = d :: t ∧ isHead d = true ∧ t.all isTail = true ∧ isTail c = true := by
  rcases ha with rfl | ⟨d, t, rfl, h1, h2⟩
  · exact .inl ⟨rfl, hc⟩
  · exact .inr ⟨d, t, rfl, h1, h2, by simp [isTail, hc]⟩
set_option maxRecDepth 100000 in
theorem digit_of (c : UInt8) : isDigit c = decide (48 ≤ c.toNat ∧ c.toNat ≤ 57) := by
  revert c; refine u8_all ?_; decide
theorem tail_of (c : UInt8) : isTail c = (isHead c || isDigit c || c == 46) := rfl
set_option maxRecDepth 100000 in
set_option maxHeartbeats 4000000 in
theorem key_any (b : Nat) (s : ByteArray) (l : Bs) (c2 c3 c4 c5 : Value) (w : World) (hR : Rd w b s l c2 c3 c4 c5) :
    Calls Tryz.prog 72 #[.pointer (some ⟨b, 0, none⟩)] w (Reads b s c2 c3 c4 c5 (keyL l) (fun k => .string ⟨k.toArray⟩) w) := by
  go_enter Tryz.func72, Tryz.ntmps72
  go_wp2_with fail
  go_step3
  go_wp2_with fail
  refine (byte_any b s l c2 c3 c4 c5 _ hR).mono ?_
  rintro e w1 ⟨rfl, hR1, hF1⟩
  have k1 := cell_of hR1.cells 1
  simp only [List.getElem?_toArray, List.getElem?_cons_zero, List.getElem?_cons_succ] at k1
  obtain ⟨m, hm⟩ : ∃ m, skipL l = m := ⟨_, rfl⟩
  rw [hm] at hR1 k1
  obtain ⟨q, hq⟩ : ∃ q, s.size - m.length = q := ⟨_, rfl⟩
  rw [hq] at k1
  have hms := hR1.suf
  have hsz := hR1.short
  have H0 : KeyRel b s m q c2 c3 c4 c5 w w1 := ⟨[], m, hR1, rfl, by simpa using hq, .inl rfl, hF1⟩
  go_wp2_with fail
  go_step3
  go_wp2_with fail
  go_loopw [] (fun wr => KeyRel b s m q c2 c3 c4 c5 w wr) (fun wr => s.size - posIn wr b)
  case atStart => exact H0
  case round =>
    clear H0 hR1 k1
    obtain ⟨a, r, hR2, hma, hqa, ha, hF⟩ := hrel
    have k0 := cell_of hR2.cells 0
    have k1 := cell_of hR2.cells 1
    have z1 := frozen_of hR2.cells 1
    simp only [List.getElem?_toArray, List.getElem?_cons_zero, List.getElem?_cons_succ] at k0 k1
    obtain ⟨p, hp⟩ : ∃ p, s.size - r.length = p := ⟨_, rfl⟩
    rw [hp] at k1 hqa
    have hkl := keyL_of hm
    rcases r with _ | ⟨c, r⟩
    · obtain rfl : s.size = p := by simpa using hp
      have g0 : decide ((s.size : Int) < (s.size : Int)) = false := by simp
      rcases ha with rfl | ⟨d, t, rfl, hd, ht⟩
      · have g5 : ((s.size : Int) == (q : Int)) = true := by simp at hqa ⊢; omega
        go_wp2
        go_quiet (fail)
        go_wp2_with fail
        refine (bad_any b s [] c2 c3 c4 c5 _ (hR2.drewN _)).mono ?_
        rintro e w2 ⟨rfl, rfl⟩
        go_wp2_with fail
        exact ⟨rfl, Reads.bad (hF.drewN _) (r := []) (by rw [hkl, hma]; rfl) (by simpa using hqa)⟩
      · have g5 : ((s.size : Int) == (q : Int)) = false := by
          simp at hqa ⊢
          omega
        have g6 : q ≤ s.size := by omega
        have HQ := Lib.hid hqa
        clear hqa
        have g7 : (q : Int) ≤ (s.size : Int) := by omega
        have g8 : (0 : Int) ≤ (q : Int) ∧ (q : Int) ≤ (s.size : Int) := by omega
        go_wp2
        go_quiet (fail)
        go_wp2_with fail
        go_quiet (fail)
        go_wp2_with fail
        try rw [Exit.noGoto_ret]
        go_ret
        refine Reads.ok ((hF.drewN _).drewN _) (by rw [hkl, hma]; exact keyM_word hd ht (by simp)) ?_ ((hR2.drewN _).drewN _)
        have hw := hR2.word (hma ▸ hms) (q := q) (by simpa using HQ.out) (by rw [← hma, hq])
        rw [← hw, ← HQ.out]
        rfl
    · obtain ⟨p', hp1, hp2, hp3, hp4⟩ := hR2.at
      obtain rfl : p' = p := by omega
      have g0 : decide ((p' : Int) < (s.size : Int)) = true := by simp; omega
      have g1 : (0 : Int) ≤ (p' : Int) ∧ (p' : Int) < (s.size : Int) := by omega
      have hc : c.toNat < 256 := c.toNat_lt
      obtain ⟨x, hx⟩ : ∃ x, (c ||| 32).toNat = x := ⟨_, rfl⟩
      have hb := bits_or c
      have hh := head_or c
      rw [hx] at hb hh
      have HM := Lib.hid hma
      have HS := Lib.hid hms
      have HQ := Lib.hid hqa
      have HK := Lib.hid hkl
      have HA := Lib.hid ha
      clear hma hms hqa hkl ha
      have hsh := hR2.short
      go_wp2
      go_quiet (fail)
      go_wp2
      go_quiet (fail)
      by_cases q1 : 97 ≤ x ∧ x ≤ 122
      · obtain ⟨q1a, q1b⟩ := q1
        have q1c : (97 : Int) ≤ (x : Int) := by omega
        have q1d : (x : Int) ≤ 122 := by omega
        have HH : Hid (isHead c = true) := Lib.hid (by rw [hh]; simp [q1a, q1b])
        clear hh
        go_wp2
        exact KeyRel.next hR2 HM.out hp1 hp2 hp3 HQ.out (word_head HA.out HH.out) hF (by go_num)
      by_cases q2 : c = 95
      · have HH : Hid (isHead c = true) := Lib.hid (by subst q2; rfl)
        have q2a : ((c.toNat : Int) == 95) = true := by subst q2; rfl
        obtain rfl : x = 127 := by subst q2; rw [← hx]; rfl
        clear hh
        go_wp2
        exact KeyRel.next hR2 HM.out hp1 hp2 hp3 HQ.out (word_head HA.out HH.out) hF (by go_num)
      have hno : Hid (isHead c = false) := Lib.hid (by rw [hh]; simp [q2]; omega)
      have q2a : ((c.toNat : Int) == 95) = false := by
        rw [show (95 : Int) = ((95 : Nat) : Int) from rfl, beq_u8 c 95 (by omega)]
        simpa using q2
      clear hh
      have hx3 : x < 97 ∨ 97 ≤ x ∧ 122 < x := by omega
      rcases HA.out with ha | ⟨d, t, ha, hd, ht⟩
      · subst ha
        obtain rfl : p' = q := by simpa using HQ.out
        have q3 : ((p' : Int) == (p' : Int)) = true := by simp
        have q4 : ¬ p' < p' := by omega
        rcases hx3 with q5 | ⟨q5, q6⟩
        all_goals
          go_wp2_with fail
          refine (bad_any b s (c :: r) c2 c3 c4 c5 _ (hR2.drewN _)).mono ?_
          rintro e w2 ⟨rfl, rfl⟩
          go_wp2_with fail
          exact ⟨rfl, Reads.bad (hF.drewN _) (r := c :: r) (by rw [HK.out, HM.out]; simp [keyM, hno.out]) rfl⟩
      · subst ha
        have q3 : ((p' : Int) == (q : Int)) = false := by
          have := HQ.out
          simp at this ⊢
          omega
        have q4 : q < p' := by
          have := HQ.out
          simp at this
          omega
        have q4' : (q : Int) < (p' : Int) := by omega
        by_cases q7 : 48 ≤ c.toNat ∧ c.toNat ≤ 57
        · obtain ⟨q7a, q7b⟩ := q7
          have HT : Hid (isTail c = true) := Lib.hid (by rw [tail_of, digit_of]; simp [q7a, q7b])
          have q7c : (48 : Int) ≤ (c.toNat : Int) := by omega
          have q7d : (c.toNat : Int) ≤ 57 := by omega
          rcases hx3 with q5 | ⟨q5, q6⟩
          all_goals
            go_wp2_with fail
            exact KeyRel.next hR2 HM.out hp1 hp2 hp3 HQ.out (.inr ⟨d, t, rfl, hd, ht, HT.out⟩) hF (by go_num)
        by_cases q8 : c = 46
        · have HT : Hid (isTail c = true) := Lib.hid (by subst q8; rfl)
          have q8a : ((c.toNat : Int) == 46) = true := by subst q8; rfl
          have q8b : c.toNat < 48 := by subst q8; decide
          rcases hx3 with q5 | ⟨q5, q6⟩
          all_goals
            go_wp2_with fail
            exact KeyRel.next hR2 HM.out hp1 hp2 hp3 HQ.out (.inr ⟨d, t, rfl, hd, ht, HT.out⟩) hF (by go_num)
        have q8a : ((c.toNat : Int) == 46) = false := by
          rw [show (46 : Int) = ((46 : Nat) : Int) from rfl, beq_u8 c 46 (by omega)]
          simpa using q8
        have HT : Hid (isTail c = false) := Lib.hid (by rw [tail_of, digit_of, hno.out]; simp [q8]; omega)
        have q9 : c.toNat < 48 ∨ 48 ≤ c.toNat ∧ 57 < c.toNat := by omega
        have g6 : q ≤ s.size := by omega
        have g7 : (p' : Int) ≤ (s.size : Int) := by omega
        have g8 : (q : Int) ≤ (p' : Int) := by omega
        have g9 : p' ≤ s.size := by omega
        have g10 : q ≤ p' := by omega
        rcases hx3 with q5 | ⟨q5, q6⟩
        all_goals
          rcases q9 with q9 | ⟨q9, q10⟩
          all_goals
            go_wp2_with fail
            go_quiet (fail)
            go_wp2_with fail
            try rw [Exit.noGoto_ret]
            go_ret
            refine Reads.ok ((hF.drewN _).drewN _) (by rw [HK.out, HM.out]; exact keyM_word hd ht (by simp [HT.out])) ?_ ((hR2.drewN _).drewN _)
            have hw := hR2.word (HM.out ▸ HS.out) (q := q) (by rw [hp1]; exact HQ.out) (by rw [← HM.out, hq])
            rw [← hw, ← HQ.out]
            rfl
end Go.Proofs.YtdhmloejgoacaaaGreatDoor
namespace Go.Proofs.YtdhmloejgoacaaaGreatDoor
open Go.RowKit Go.Bl Go.Lq

def sgn : Nat → ByteArray
  | 0 => ⟨#[61, 126]⟩
  | 1 => ⟨#[33, 126]⟩
  | 2 => ⟨#[33, 61]⟩
  | _ => ⟨#[61]⟩
def opM (m : Bs) : PR Int :=
  match takeL [61, 126] m with
  | some r => .ok 3 r
  | none => match takeL [33, 126] m with
    | some r => .ok 4 r
    | none => match takeL [33, 61] m with
      | some r => .ok 2 r
      | none => match takeL [61] m with
        | some r => .ok 1 r
        | none => match takeL [33] m with
          | some r => .bad r
          | none => .ok 0 m
theorem opL_of {l m : Bs} (h : skipL l = m) : opL l = opM m := by subst h; rfl
def OpRel (b A : Nat) (s : ByteArray) (m : Bs) (c2 c3 c4 c5 : Value) (w : World) (iv : Value) (wr : World) : Prop :=
  ∃ k : Nat, iv = .int .i64 (k : Int) ∧ k ≤ 4 ∧ Rd wr b s m c2 c3 c4 c5 ∧ (∃ T, wr.heap[A]? = some (.cells #[.string (sgn 0), .string (sgn 1), .string (sgn 2), .string (sgn 3)] T (0, 0))) ∧
    (∀ j, j < k → takeL (sgn j).data.toList m = none) ∧ Fr [b] w wr

theorem OpRel.next {b A : Nat} {s : ByteArray} {m : Bs} {c2 c3 c4 c5 : Value} {w wr w2 : World} {k : Nat} {T : TypeId} (hA : wr.heap[A]? = some (.cells #[.string (sgn 0), .string (sgn 1), .string (sgn 2), .string (sgn 3)] T (0, 0)))
    (hj : ∀ j, j < k → takeL (sgn j).data.toList m = none) (hF : Fr [b] w wr) (hne : A ≠ b) (hv : takeL (sgn k).data.toList m = none) (hR3 : Rd w2 b s m c2 c3 c4 c5) (hF3 : Fr [b] wr w2) (hk : k + 1 ≤ 4) {i : Int} (hi : i = ((k + 1 : Nat) : Int)) :
    OpRel b A s m c2 c3 c4 c5 w (.int .i64 i) w2 := by
  subst hi
  refine ⟨k + 1, rfl, hk, hR3, ⟨T, hF3.obj hA (by simpa using hne)⟩, ?_, hF.trans hF3⟩
  intro j hj2
  by_cases e : j = k
  · rw [e]; exact hv
  · exact hj j (by omega)
theorem opM_of {m : Bs} {k : Nat} {r : Bs} (hk : k < 4) (hj : ∀ j, j < k → takeL (sgn j).data.toList m = none) (hv : takeL (sgn k).data.toList m = some r) : opM m = .ok (match k with | 0 => 3 | 1 => 4 | 2 => 2 | _ => 1) r := by
  have hkc : k = 0 ∨ k = 1 ∨ k = 2 ∨ k = 3 := by omega
  unfold opM
  rcases hkc with rfl | rfl | rfl | rfl
  · simp only [show takeL [61, 126] m = some r from hv]
  · simp only [show takeL [61, 126] m = none from hj 0 (by omega), show takeL [33, 126] m = some r from hv]
  · simp only [show takeL [61, 126] m = none from hj 0 (by omega), show takeL [33, 126] m = none from hj 1 (by omega), show takeL [33, 61] m = some r from hv]
  · simp only [show takeL [61, 126] m = none from hj 0 (by omega), show takeL [33, 126] m = none from hj 1 (by omega), show takeL [33, 61] m = none from hj 2 (by omega), show takeL [61] m = some r from hv]
    rfl
theorem opM_none {m : Bs} (hj : ∀ j, j < 4 → takeL (sgn j).data.toList m = none) : opM m = match takeL [33] m with
    | some r => .bad r
    | none => .ok 0 m := by
  unfold opM
  simp only [show takeL [61, 126] m = none from hj 0 (by omega), show takeL [33, 126] m = none from hj 1 (by omega), show takeL [33, 61] m = none from hj 2 (by omega), show takeL [61] m = none from hj 3 (by omega)]

set_option maxRecDepth 100000 in
set_option maxHeartbeats 4000000 in
theorem op_any (b : Nat) (s : ByteArray) (l : Bs) (c2 c3 c4 c5 : Value) (w : World) (hR : Rd w b s l c2 c3 c4 c5) :
    Calls Tryz.prog 73 #[.pointer (some ⟨b, 0, none⟩)] w (Reads b s c2 c3 c4 c5 (opL l) (fun n => .int .i64 n) w) := by
  go_enter Tryz.func73, Tryz.ntmps73
  go_wp2_with fail
  refine (byte_any b s l c2 c3 c4 c5 _ hR).mono ?_
  rintro e w1 ⟨rfl, hR1, hF1⟩
  obtain ⟨m, hm⟩ : ∃ m, skipL l = m := ⟨_, rfl⟩
  rw [hm] at hR1
  have hbs : b < w1.heap.size := lt_of_obj hR1.cells
  go_wp2_with fail
  have H0 : OpRel b w1.heap.size s m c2 c3 c4 c5 w (.int .i64 0) (w1.alloc (.cells #[.string (sgn 0), .string (sgn 1), .string (sgn 2), .string (sgn 3)] 9)) :=
    ⟨0, rfl, by omega, ⟨Bl.heap_alloc_old hR1.cells _, hR1.suf, hR1.short⟩, ⟨_, heap_alloc _ _⟩, fun _ h => by omega, hF1.alloc _⟩
  go_loopw [9] (fun iv wr => OpRel b w1.heap.size s m c2 c3 c4 c5 w iv wr) (fun i _ => 4 - (intOf i).toNat)
  case atStart => exact H0
  case round =>
    clear H0
    obtain ⟨k, rfl, hk, hR2, ⟨T, hA⟩, hj, hF⟩ := hrel
    have HJ := Lib.hid hj
    clear hj
    have d0 := cell_of hA 0
    have d1 := cell_of hA 1
    have d2 := cell_of hA 2
    have d3 := cell_of hA 3
    simp only [List.getElem?_toArray, List.getElem?_cons_zero, List.getElem?_cons_succ] at d0 d1 d2 d3
    have hkc : k = 0 ∨ k = 1 ∨ k = 2 ∨ k = 3 ∨ k = 4 := by omega
    rcases hkc with rfl | rfl | rfl | rfl | rfl
    · go_wp2_with fail
      refine (take_any b s (sgn 0) m c2 c3 c4 c5 (by decide) _ hR2).mono ?_
      rintro e w2 ⟨rfl, hR3, hF3⟩
      obtain ⟨v, hv⟩ : ∃ v, takeL (sgn 0).data.toList m = v := ⟨_, rfl⟩
      rw [hv] at hR3 ⊢
      cases v with
      | none =>
        go_wp2_with fail
        exact ⟨OpRel.next hA HJ.out hF (by omega) hv hR3 hF3 (by omega) rfl, by simp [intOf]⟩
      | some r =>
        go_wp2_with fail
        go_ret
        exact Reads.ok ((hF.trans hF3).alloc _) (by rw [opL_of hm]; exact opM_of (by omega) HJ.out hv) rfl (hR3.fr ((Fr.refl [] _).alloc _) (by simp))
    · go_wp2_with fail
      refine (take_any b s (sgn 1) m c2 c3 c4 c5 (by decide) _ hR2).mono ?_
      rintro e w2 ⟨rfl, hR3, hF3⟩
      obtain ⟨v, hv⟩ : ∃ v, takeL (sgn 1).data.toList m = v := ⟨_, rfl⟩
      rw [hv] at hR3 ⊢
      cases v with
      | none =>
        go_wp2_with fail
        exact ⟨OpRel.next hA HJ.out hF (by omega) hv hR3 hF3 (by omega) rfl, by simp [intOf]⟩
      | some r =>
        go_wp2_with fail
        go_ret
        exact Reads.ok ((hF.trans hF3).alloc _) (by rw [opL_of hm]; exact opM_of (by omega) HJ.out hv) rfl (hR3.fr ((Fr.refl [] _).alloc _) (by simp))
    · go_wp2_with fail
      refine (take_any b s (sgn 2) m c2 c3 c4 c5 (by decide) _ hR2).mono ?_
      rintro e w2 ⟨rfl, hR3, hF3⟩
      obtain ⟨v, hv⟩ : ∃ v, takeL (sgn 2).data.toList m = v := ⟨_, rfl⟩
      rw [hv] at hR3 ⊢
      cases v with
      | none =>
        go_wp2_with fail
        exact ⟨OpRel.next hA HJ.out hF (by omega) hv hR3 hF3 (by omega) rfl, by simp [intOf]⟩
      | some r =>
        go_wp2_with fail
        go_ret
        exact Reads.ok ((hF.trans hF3).alloc _) (by rw [opL_of hm]; exact opM_of (by omega) HJ.out hv) rfl (hR3.fr ((Fr.refl [] _).alloc _) (by simp))
    · go_wp2_with fail
      refine (take_any b s (sgn 3) m c2 c3 c4 c5 (by decide) _ hR2).mono ?_
      rintro e w2 ⟨rfl, hR3, hF3⟩
      obtain ⟨v, hv⟩ : ∃ v, takeL (sgn 3).data.toList m = v := ⟨_, rfl⟩
      rw [hv] at hR3 ⊢
      cases v with
      | none =>
        go_wp2_with fail
        exact ⟨OpRel.next hA HJ.out hF (by omega) hv hR3 hF3 (by omega) rfl, by simp [intOf]⟩
      | some r =>
        go_wp2_with fail
        go_ret
        exact Reads.ok ((hF.trans hF3).alloc _) (by rw [opL_of hm]; exact opM_of (by omega) HJ.out hv) rfl (hR3.fr ((Fr.refl [] _).alloc _) (by simp))
    · go_wp2_with fail
      refine (take_any b s ⟨#[33]⟩ m c2 c3 c4 c5 (by decide) _ hR2).mono ?_
      rintro e w2 ⟨rfl, hR3, hF3⟩
      have hM := opM_none HJ.out
      obtain ⟨v, hv⟩ : ∃ v, takeL [33] m = v := ⟨_, rfl⟩
      rw [hv] at hM
      rw [show ByteArray.data ⟨#[33]⟩ = #[33] from rfl] at hR3 ⊢
      rw [show takeL (#[33] : Array UInt8).toList m = v from hv] at hR3 ⊢
      cases v with
      | none =>
        go_wp2_with fail
        go_ret
        exact Reads.ok (hF.trans hF3) (by rw [opL_of hm]; exact hM) rfl hR3
      | some r =>
        go_wp2_with fail
        refine (bad_any b s r c2 c3 c4 c5 _ hR3).mono ?_
        rintro e w3 ⟨rfl, rfl⟩
        go_wp2_with fail
        exact ⟨rfl, Reads.bad (hF.trans hF3) (r := r) (by rw [opL_of hm]; exact hM) rfl⟩
end Go.Proofs.YtdhmloejgoacaaaGreatDoor
namespace Go.Proofs.YtdhmloejgoacaaaGreatDoor
open Go.RowKit Go.Bl Go.Lq

set_option maxRecDepth 100000 in
theorem head_any (c : UInt8) (w : World) : Calls Tryz.prog 128 #[.int .u8 (c.toNat : Int)] w fun e w' => e = .returned (.bool (isHead c)) ∧ w' = w := by
  have hb := bits_or c
  have ho := head_or c
  obtain ⟨d, hd⟩ : ∃ d, c ||| 32 = d := ⟨_, rfl⟩
  rw [hd] at hb ho
  have b2 : ((c.toNat : Int) == 95) = decide (c = 95) := beq_u8 c 95 (by omega)
  obtain ⟨x, hx⟩ : ∃ x, decide (97 ≤ d.toNat) = x := ⟨_, rfl⟩
  obtain ⟨y, hy⟩ : ∃ y, decide (d.toNat ≤ 122) = y := ⟨_, rfl⟩
  have ho2 : isHead c = ((x && y) || decide (c = 95)) := by rw [ho, ← hx, ← hy]; simp
  obtain ⟨z, hz⟩ : ∃ z, decide (c = 95) = z := ⟨_, rfl⟩
  rw [hz] at b2 ho2
  rw [ho2]
  have hx2 : decide ((d.toNat : Int) ≥ 97) = x := by rw [← hx]; apply decide_eq_decide.2; omega
  have hy2 : decide ((d.toNat : Int) ≤ 122) = y := by rw [← hy]; apply decide_eq_decide.2; omega
  clear ho ho2 hx hy hz hd
  go_enter Tryz.func128, Tryz.ntmps128
  go_wp2
  all_goals (go_ret; exact ⟨by simp_all, rfl⟩)
set_option maxRecDepth 100000 in
theorem tail_any (c : UInt8) (w : World) : Calls Tryz.prog 129 #[.int .u8 (c.toNat : Int)] w fun e w' => e = .returned (.bool (isTail c)) ∧ w' = w := by
  have hh := head_any c w
  obtain ⟨a, ha⟩ : ∃ a, isHead c = a := ⟨_, rfl⟩
  rw [ha] at hh
  obtain ⟨x, hx⟩ : ∃ x, decide (48 ≤ c.toNat) = x := ⟨_, rfl⟩
  obtain ⟨y, hy⟩ : ∃ y, decide (c.toNat ≤ 57) = y := ⟨_, rfl⟩
  obtain ⟨z, hz⟩ : ∃ z, decide (c = 46) = z := ⟨_, rfl⟩
  have b2 : ((c.toNat : Int) == 46) = decide (c = 46) := beq_u8 c 46 (by omega)
  rw [hz] at b2
  have hx2 : decide ((c.toNat : Int) ≥ 48) = x := by rw [← hx]; apply decide_eq_decide.2; omega
  have hy2 : decide ((c.toNat : Int) ≤ 57) = y := by rw [← hy]; apply decide_eq_decide.2; omega
  have ht : isTail c = (a || (x && y) || z) := by
    unfold isTail isDigit
    rw [ha, ← hx, ← hy, ← hz]
    congr 1
  rw [ht]
  clear ht ha hx hy hz
  go_enter Tryz.func129, Tryz.ntmps129
  go_wp2_with fail
  refine hh.mono ?_
  rintro e w' ⟨rfl, rfl⟩
  go_wp2
  all_goals (go_ret; exact ⟨by simp_all, rfl⟩)
end Go.Proofs.YtdhmloejgoacaaaGreatDoor
namespace Go.Proofs.YtdhmloejgoacaaaGreatDoor
open Go.RowKit Go.Bl Go.Lq

/-- What a reading step has left. -/
def Got {α : Type} (pr : PR α) (v : α) (r : Bs) (bd : Bool) : Prop := match pr with
  | .ok a r' => v = a ∧ r = r' ∧ bd = false
  | .bad r' => r = r' ∧ bd = true
theorem Ar.word {T : Nat} {w : World} {b : Nat} {s : ByteArray} {a r : Bs} {q : Nat} {d : Bool} (h : Ar T w b s r d) (hs : (a ++ r) <:+ s.data.toList) (hq : s.size - r.length = q + a.length) (hq2 : q = s.size - (a ++ r).length) :
    s.extract q (q + a.length) = ⟨a.toArray⟩ := by
  apply bs_ext
  rw [extract_list]
  have := drop_suf hs
  rw [bytes_len, ← hq2] at this
  rw [this]
  simp
def KRel (b : Nat) (s : ByteArray) (l : Bs) (w wr : World) : Prop :=
  ∃ t r, Ar 291 wr b s r false ∧ l = t ++ r ∧ t.all isTail = true ∧ (t = [] ∧ r = l ∨ t ≠ []) ∧ Fr [b] w wr
set_option maxRecDepth 100000 in
set_option maxHeartbeats 2000000 in
theorem keyA (b : Nat) (s : ByteArray) (l : Bs) (w : World) (hR : Ar 291 w b s l false) :
    Calls Tryz.prog 227 #[.pointer (some ⟨b, 0, none⟩)] w fun e w' =>
      ∃ k r bd, e = .returned (.string ⟨k.toArray⟩) ∧ Got (keyM l) k r bd ∧ Ar 291 w' b s r bd ∧ Fr [b] w w' := by
  have k0 := cell_of hR.cells 0
  have k1 := cell_of hR.cells 1
  have k2 := cell_of hR.cells 2
  have z2 := frozen_of hR.cells 2
  simp only [List.getElem?_toArray, List.getElem?_cons_zero, List.getElem?_cons_succ] at k0 k1 k2
  obtain ⟨hl, hx⟩ := hR.left
  have hsh := hR.short
  obtain ⟨q, hq⟩ : ∃ q, s.size - l.length = q := ⟨_, rfl⟩
  rw [hq] at k1
  have hql : q ≤ s.size := by omega
  go_enter Tryz.func227, Tryz.ntmps227
  by_cases hh : ∃ c m, l = c :: m ∧ isHead c = true
  case neg =>
    have hbad : keyM l = .bad l := by
      cases l with
      | nil => rfl
      | cons c m =>
        have : ¬ isHead c = true := fun h => hh ⟨c, m, rfl, h⟩
        simp [keyM, this]
    rcases l with _ | ⟨c, m⟩
    · obtain rfl : s.size = q := by simpa using hq
      have g0 : decide ((s.size : Int) < (s.size : Int)) = false := by simp
      go_wp2_with fail
      go_quiet (fail)
      go_wp2_with fail
      go_quiet (fail)
      go_wp2_with fail
      go_ret
      refine ⟨[], [], true, ?_, ?_, ?_, ?_⟩
      · exact ret_val (congrArg Value.string (by apply bs_ext; simp [extract_list]))
      · rw [hbad]; exact ⟨rfl, rfl⟩
      · exact Ar.drewN ((hR.drewN _).flag _) _
      · exact Fr.drewN (((Fr.refl _ _).drewN _).setCell1 2 _) _
    · obtain ⟨p', hp1, hp2, hp3, hp4⟩ := hR.at
      obtain rfl : p' = q := by omega
      have hhc : isHead c = false := by
        rcases hv : isHead c with _ | _
        · rfl
        · exact absurd ⟨c, m, rfl, hv⟩ hh
      have g0 : decide ((p' : Int) < (s.size : Int)) = true := by simp; omega
      have hpk : ∀ W, Ar 291 W b s (c :: m) false → Calls Tryz.prog 224 #[.pointer (some ⟨b, 0, none⟩)] W fun e w' => e = .returned (.int .u8 (c.toNat : Int)) ∧ ∃ n, w' = W.drewN n := fun W h => peekA b s (c :: m) false W h
      have hhd : ∀ W, Calls Tryz.prog 128 #[.int .u8 (c.toNat : Int)] W fun e w' => e = .returned (.bool false) ∧ w' = W := fun W => by have := head_any c W; rwa [hhc] at this
      go_wp2_with fail
      go_quiet (first | (go_at_call 224; exact Calls.quiet_of (hpk _ (hR.drewN _))) | (go_at_call 128; exact Calls.quiet_of_same (hhd _)))
      go_wp2_with fail
      go_quiet (fail)
      go_wp2_with fail
      go_ret
      refine ⟨[], c :: m, true, ?_, ?_, ?_, ?_⟩
      · exact ret_val (congrArg Value.string (by apply bs_ext; simp [extract_list]))
      · rw [hbad]; exact ⟨rfl, rfl⟩
      · exact Ar.drewN ((hR.drewN _).flag _) _
      · exact Fr.drewN (((Fr.refl _ _).drewN _).setCell1 2 _) _
  case pos =>
    obtain ⟨c, m, rfl, hhc⟩ := hh
    have hms := hR.suf
    have hpk : ∀ W, Ar 291 W b s (c :: m) false → Calls Tryz.prog 224 #[.pointer (some ⟨b, 0, none⟩)] W fun e w' => e = .returned (.int .u8 (c.toNat : Int)) ∧ ∃ n, w' = W.drewN n := fun W h => peekA b s (c :: m) false W h
    have hhd : ∀ W, Calls Tryz.prog 128 #[.int .u8 (c.toNat : Int)] W fun e w' => e = .returned (.bool true) ∧ w' = W := fun W => by have := head_any c W; rwa [hhc] at this
    have htc : isTail c = true := by simp [isTail, hhc]
    obtain ⟨p', hp1, hp2, hp3, hp4⟩ := hR.at
    obtain rfl : p' = q := by omega
    have g0 : decide ((p' : Int) < (s.size : Int)) = true := by simp; omega
    go_wp2_with fail
    go_quiet (first | (go_at_call 224; exact Calls.quiet_of (hpk _ (hR.drewN _))) | (go_at_call 128; exact Calls.quiet_of_same (hhd _)))
    have H0 : KRel b s (c :: m) w (w.drewN nq) := ⟨[], c :: m, hR.drewN _, rfl, rfl, .inl ⟨rfl, rfl⟩, (Fr.refl _ _).drewN _⟩
    go_wp2_with fail
    go_loopw [] (fun wr => KRel b s (c :: m) w wr) (fun wr => s.size - posA wr b)
    case atStart => exact H0
    case round =>
      clear H0 hpk hhd k0 k1 k2 z2 g0
      obtain ⟨t, r, hR2, hma, ht, hne, hF⟩ := hrel
      have j0 := cell_of hR2.cells 0
      have j1 := cell_of hR2.cells 1
      have y1 := frozen_of hR2.cells 1
      have y2 := frozen_of hR2.cells 2
      have j2 := cell_of hR2.cells 2
      simp only [List.getElem?_toArray, List.getElem?_cons_zero, List.getElem?_cons_succ] at j0 j1 j2
      have hlen := congrArg List.length hma
      simp only [List.length_append, List.length_cons] at hlen
      have HM := Lib.hid hma
      have HT := Lib.hid ht
      have HN := Lib.hid hne
      have HS := Lib.hid hms
      clear hma ht hne hms
      have hsz : (c :: m).length ≤ s.size := hl
      obtain ⟨p, hp⟩ : ∃ p, s.size - r.length = p := ⟨_, rfl⟩
      rw [hp] at j1
      have hpq : p = p' + t.length := by simp at hsz; omega
      by_cases hr : ∃ d r', r = d :: r' ∧ isTail d = true
      case pos =>
        clear hpq
        obtain ⟨d, r', rfl, hd⟩ := hr
        obtain ⟨p2, e1, e2, e3, e4⟩ := hR2.at
        obtain rfl : p2 = p := by omega
        have hpk : ∀ W, Ar 291 W b s (d :: r') false → Calls Tryz.prog 224 #[.pointer (some ⟨b, 0, none⟩)] W fun e w' => e = .returned (.int .u8 (d.toNat : Int)) ∧ ∃ n, w' = W.drewN n := fun W h => peekA b s (d :: r') false W h
        have htl : ∀ W, Calls Tryz.prog 129 #[.int .u8 (d.toNat : Int)] W fun e w' => e = .returned (.bool true) ∧ w' = W := fun W => by have := tail_any d W; rwa [hd] at this
        have g0 : decide ((p2 : Int) < (s.size : Int)) = true := by simp; omega
        go_wp2_with fail
        go_quiet (first | (go_at_call 224; exact Calls.quiet_of (hpk _ (hR2.drewN _))) | (go_at_call 129; exact Calls.quiet_of_same (htl _)))
        go_wp2_with fail
        have hR3 : Ar 291 ((wr.drewN nq).setCell ⟨b, 1, none⟩ (.int .i64 ((p2 : Int) + 1))) b s r' false := (hR2.drewN nq).set (List.suffix_cons d r') (by rw [e2]; rfl)
        exact ⟨⟨t ++ [d], r', hR3, by rw [HM.out]; simp, by have := HT.out; simp [this, hd], .inr (by simp), (hF.drewN _).setCell1 1 _⟩, posA_less hR2 hR3 (by simp)⟩
      case neg =>
        have hrt : ∀ x ∈ r.head?, isTail x = false := by
          intro x hx
          cases r with
          | nil => simp at hx
          | cons y r' =>
            simp at hx
            subst hx
            rcases hv : isTail y with _ | _
            · rfl
            · exact absurd ⟨y, r', rfl, hv⟩ hr
        have htne : t ≠ [] := by
          rcases HN.out with ⟨h1, h2⟩ | h1
          · subst h1
            intro _
            have := HM.out
            rw [List.nil_append] at this
            exact hr ⟨c, m, this.symm, htc⟩
          · exact h1
        obtain ⟨t', rfl⟩ : ∃ t', t = c :: t' := by
          cases t with
          | nil => exact absurd rfl htne
          | cons x t' =>
            have := HM.out
            simp at this
            exact ⟨t', by rw [this.1]⟩
        have hkm : keyM (c :: m) = .ok (c :: t') r := by
          rw [HM.out]
          refine keyM_word hhc ?_ hrt
          have := HT.out
          simp at this ⊢
          exact this.2
        have g5 : ((p : Int) == (p' : Int)) = false := by simp; simp at hpq; omega
        have g7 : (p' : Int) ≤ (p : Int) := by omega
        have g8 : (p : Int) ≤ (s.size : Int) := by omega
        have g9 : (0 : Int) ≤ (p' : Int) ∧ (p' : Int) ≤ (p : Int) ∧ (p : Int) ≤ (s.size : Int) := by omega
        have g10 : p' ≤ p ∧ p ≤ s.size := by omega
        have hwd := hR2.word (q := p') (HM.out ▸ HS.out) (by omega) (by rw [← HM.out]; exact hp1.symm)
        rw [show p' + (c :: t').length = p by omega] at hwd
        rcases r with _ | ⟨d, r'⟩
        · obtain rfl : s.size = p := by simpa using hp
          have g0 : decide ((s.size : Int) < (s.size : Int)) = false := by simp
          have HH := Lib.hid hpq
          clear hpq
          go_wp2_with fail
          go_quiet (fail)
          go_wp2_with fail
          go_quiet (fail)
          go_wp2_with fail
          go_ret
          refine ⟨c :: t', [], false, rfl, by rw [hkm]; exact ⟨rfl, rfl, rfl⟩, ?_, ?_⟩
          · exact Ar.drewN ((hR2.drewN _).flag _) _
          · exact Fr.drewN ((hF.drewN _).setCell1 2 _) _
        · obtain ⟨p2, e1, e2, e3, e4⟩ := hR2.at
          obtain rfl : p2 = p := by omega
          have hd : isTail d = false := hrt d (by simp)
          have hpk : ∀ W, Ar 291 W b s (d :: r') false → Calls Tryz.prog 224 #[.pointer (some ⟨b, 0, none⟩)] W fun e w' => e = .returned (.int .u8 (d.toNat : Int)) ∧ ∃ n, w' = W.drewN n := fun W h => peekA b s (d :: r') false W h
          have htl : ∀ W, Calls Tryz.prog 129 #[.int .u8 (d.toNat : Int)] W fun e w' => e = .returned (.bool false) ∧ w' = W := fun W => by have := tail_any d W; rwa [hd] at this
          have g0 : decide ((p2 : Int) < (s.size : Int)) = true := by simp; omega
          have HH := Lib.hid hpq
          clear hpq
          go_wp2_with fail
          go_quiet (first | (go_at_call 224; exact Calls.quiet_of (hpk _ (hR2.drewN _))) | (go_at_call 129; exact Calls.quiet_of_same (htl _)))
          go_wp2_with fail
          go_quiet (fail)
          go_wp2_with fail
          go_ret
          refine ⟨c :: t', d :: r', false, rfl, by rw [hkm]; exact ⟨rfl, rfl, rfl⟩, ?_, ?_⟩
          · exact Ar.drewN ((hR2.drewN _).flag _) _
          · exact Fr.drewN ((hF.drewN _).setCell1 2 _) _
end Go.Proofs.YtdhmloejgoacaaaGreatDoor
namespace Go.Proofs.YtdhmloejgoacaaaGreatDoor
open Go.RowKit Go.Bl Go.Lq

/-- An operator that must stand. -/
def opB (l : Bs) : PR Int := match opM l with
  | .ok n r => if n = 0 then .bad r else .ok n r
  | .bad r => .bad r
def opN : Nat → Int
  | 0 => 3
  | 1 => 4
  | 2 => 2
  | _ => 1
theorem sgn_sign (k : Nat) (h : k < 4) : (⟨(signP (opN k)).toArray⟩ : ByteArray) = sgn k := by
  have : k = 0 ∨ k = 1 ∨ k = 2 ∨ k = 3 := by omega
  rcases this with rfl | rfl | rfl | rfl <;> rfl
def OpRelA (b A : Nat) (s : ByteArray) (m : Bs) (d : Bool) (w : World) (iv : Value) (wr : World) : Prop :=
  ∃ k : Nat, iv = .int .i64 (k : Int) ∧ k ≤ 4 ∧ Ar 291 wr b s m d ∧ (∃ T, wr.heap[A]? = some (.cells #[.int .i64 3, .int .i64 4, .int .i64 2, .int .i64 1] T (0, 0))) ∧
    (d = false → ∀ j, j < k → takeL (sgn j).data.toList m = none) ∧ Fr [b] w wr
theorem OpRelA.next {b A : Nat} {s : ByteArray} {m : Bs} {d : Bool} {w wr w2 : World} {k : Nat} {T : TypeId} (hA : wr.heap[A]? = some (.cells #[.int .i64 3, .int .i64 4, .int .i64 2, .int .i64 1] T (0, 0)))
    (hj : d = false → ∀ j, j < k → takeL (sgn j).data.toList m = none) (hF : Fr [b] w wr) (hne : A ≠ b) (hv : d = false → takeL (sgn k).data.toList m = none) (hR3 : Ar 291 w2 b s m d) (hF3 : Fr [b] wr w2) (hk : k + 1 ≤ 4) {i : Int} (hi : i = ((k + 1 : Nat) : Int)) :
    OpRelA b A s m d w (.int .i64 i) w2 := by
  subst hi
  refine ⟨k + 1, rfl, hk, hR3, ⟨T, hF3.obj hA (by simpa using hne)⟩, ?_, hF.trans hF3⟩
  intro hd j hj2
  by_cases e : j = k
  · rw [e]; exact hv hd
  · exact hj hd j (by omega)
theorem opA_cell {w : World} {A k : Nat} {T : TypeId} (hA : w.heap[A]? = some (.cells #[.int .i64 3, .int .i64 4, .int .i64 2, .int .i64 1] T (0, 0))) (h : k < 4) : w.cell? ⟨A, k, none⟩ = some (.int .i64 (opN k)) := by
  have : k = 0 ∨ k = 1 ∨ k = 2 ∨ k = 3 := by omega
  rcases this with rfl | rfl | rfl | rfl <;> exact cell_of hA _
def OpPost (b : Nat) (s : ByteArray) (l : Bs) (d : Bool) (w : World) (e : Ending) (w' : World) : Prop :=
  ∃ n r bd, e = .returned (.int .i64 n) ∧ Got (if d then .bad l else opB l) n r bd ∧ Ar 291 w' b s r bd ∧ Fr [b] w w'
set_option maxRecDepth 100000 in
set_option maxHeartbeats 2000000 in
theorem opA (b : Nat) (s : ByteArray) (l : Bs) (d : Bool) (w : World) (hR : Ar 291 w b s l d) :
    Calls Tryz.prog 228 #[.pointer (some ⟨b, 0, none⟩)] w (OpPost b s l d w) := by
  have hbl : b < w.heap.size := lt_of_obj hR.cells
  go_enter Tryz.func228, Tryz.ntmps228
  go_wp2_with fail
  have H0 : OpRelA b w.heap.size s l d w (.int .i64 0) (w.alloc (.cells #[.int .i64 3, .int .i64 4, .int .i64 2, .int .i64 1] 3)) :=
    ⟨0, rfl, by omega, hR.fr ((Fr.refl [] w).alloc _) (by simp), ⟨_, heap_alloc _ _⟩, fun _ j hj => by omega, (Fr.refl _ _).alloc _⟩
  go_loopw [7] (fun iv wr => OpRelA b w.heap.size s l d w iv wr) (fun i _ => 4 - (intOf i).toNat)
  case atStart => exact H0
  case round =>
    clear H0
    obtain ⟨k, rfl, hk, hR2, ⟨T, hA⟩, hj, hF⟩ := hrel
    have HJ := Lib.hid hj
    clear hj
    have d0 := cell_of hA 0
    have d1 := cell_of hA 1
    have d2 := cell_of hA 2
    have d3 := cell_of hA 3
    simp only [List.getElem?_toArray, List.getElem?_cons_zero, List.getElem?_cons_succ] at d0 d1 d2 d3
    have hkc : k = 0 ∨ k = 1 ∨ k = 2 ∨ k = 3 ∨ k = 4 := by omega
    rcases hkc with rfl | rfl | rfl | rfl | rfl
    · go_wp2_with (first | (go_at_call 102; refine (sign_any _ _).mono ?_; rintro e wz ⟨rfl, rfl⟩))
      rw [show (⟨(signP 3).toArray⟩ : ByteArray) = sgn 0 from rfl]
      refine (takeA b s (sgn 0) l d (by decide) _ hR2).mono ?_
      rintro e w2 ⟨rfl, hR3, hF3⟩
      obtain ⟨v, hv⟩ : ∃ v, takeL (sgn 0).data.toList l = v := ⟨_, rfl⟩
      rw [hv] at hR3 ⊢
      cases d
      · cases v with
        | none =>
          go_wp2_with fail
          exact ⟨OpRelA.next hA (fun _ => HJ.out (by trivial)) hF (by omega) (fun _ => hv) hR3 hF3 (by omega) rfl, by simp [intOf]⟩
        | some r =>
          go_wp2_with fail
          go_ret
          refine ⟨3, r, false, rfl, ?_, hR3, hF.trans hF3⟩
          rw [if_neg (by simp)]
          unfold opB
          rw [opM_of (by omega) (HJ.out (by trivial)) hv]
          exact ⟨rfl, rfl, rfl⟩
      · go_wp2_with fail
        exact ⟨OpRelA.next hA (fun _ => HJ.out (by trivial)) hF (by omega) (fun h => by cases h) hR3 hF3 (by omega) rfl, by simp [intOf]⟩
    · go_wp2_with (first | (go_at_call 102; refine (sign_any _ _).mono ?_; rintro e wz ⟨rfl, rfl⟩))
      rw [show (⟨(signP 4).toArray⟩ : ByteArray) = sgn 1 from rfl]
      refine (takeA b s (sgn 1) l d (by decide) _ hR2).mono ?_
      rintro e w2 ⟨rfl, hR3, hF3⟩
      obtain ⟨v, hv⟩ : ∃ v, takeL (sgn 1).data.toList l = v := ⟨_, rfl⟩
      rw [hv] at hR3 ⊢
      cases d
      · cases v with
        | none =>
          go_wp2_with fail
          exact ⟨OpRelA.next hA (fun _ => HJ.out (by trivial)) hF (by omega) (fun _ => hv) hR3 hF3 (by omega) rfl, by simp [intOf]⟩
        | some r =>
          go_wp2_with fail
          go_ret
          refine ⟨4, r, false, rfl, ?_, hR3, hF.trans hF3⟩
          rw [if_neg (by simp)]
          unfold opB
          rw [opM_of (by omega) (HJ.out (by trivial)) hv]
          exact ⟨rfl, rfl, rfl⟩
      · go_wp2_with fail
        exact ⟨OpRelA.next hA (fun _ => HJ.out (by trivial)) hF (by omega) (fun h => by cases h) hR3 hF3 (by omega) rfl, by simp [intOf]⟩
    · go_wp2_with (first | (go_at_call 102; refine (sign_any _ _).mono ?_; rintro e wz ⟨rfl, rfl⟩))
      rw [show (⟨(signP 2).toArray⟩ : ByteArray) = sgn 2 from rfl]
      refine (takeA b s (sgn 2) l d (by decide) _ hR2).mono ?_
      rintro e w2 ⟨rfl, hR3, hF3⟩
      obtain ⟨v, hv⟩ : ∃ v, takeL (sgn 2).data.toList l = v := ⟨_, rfl⟩
      rw [hv] at hR3 ⊢
      cases d
      · cases v with
        | none =>
          go_wp2_with fail
          exact ⟨OpRelA.next hA (fun _ => HJ.out (by trivial)) hF (by omega) (fun _ => hv) hR3 hF3 (by omega) rfl, by simp [intOf]⟩
        | some r =>
          go_wp2_with fail
          go_ret
          refine ⟨2, r, false, rfl, ?_, hR3, hF.trans hF3⟩
          rw [if_neg (by simp)]
          unfold opB
          rw [opM_of (by omega) (HJ.out (by trivial)) hv]
          exact ⟨rfl, rfl, rfl⟩
      · go_wp2_with fail
        exact ⟨OpRelA.next hA (fun _ => HJ.out (by trivial)) hF (by omega) (fun h => by cases h) hR3 hF3 (by omega) rfl, by simp [intOf]⟩
    · go_wp2_with (first | (go_at_call 102; refine (sign_any _ _).mono ?_; rintro e wz ⟨rfl, rfl⟩))
      rw [show (⟨(signP 1).toArray⟩ : ByteArray) = sgn 3 from rfl]
      refine (takeA b s (sgn 3) l d (by decide) _ hR2).mono ?_
      rintro e w2 ⟨rfl, hR3, hF3⟩
      obtain ⟨v, hv⟩ : ∃ v, takeL (sgn 3).data.toList l = v := ⟨_, rfl⟩
      rw [hv] at hR3 ⊢
      cases d
      · cases v with
        | none =>
          go_wp2_with fail
          exact ⟨OpRelA.next hA (fun _ => HJ.out (by trivial)) hF (by omega) (fun _ => hv) hR3 hF3 (by omega) rfl, by simp [intOf]⟩
        | some r =>
          go_wp2_with fail
          go_ret
          refine ⟨1, r, false, rfl, ?_, hR3, hF.trans hF3⟩
          rw [if_neg (by simp)]
          unfold opB
          rw [opM_of (by omega) (HJ.out (by trivial)) hv]
          exact ⟨rfl, rfl, rfl⟩
      · go_wp2_with fail
        exact ⟨OpRelA.next hA (fun _ => HJ.out (by trivial)) hF (by omega) (fun h => by cases h) hR3 hF3 (by omega) rfl, by simp [intOf]⟩
    · have k0 := cell_of hR2.cells 0
      have k1 := cell_of hR2.cells 1
      have k2 := cell_of hR2.cells 2
      have z1 := frozen_of hR2.cells 1
      have z2 := frozen_of hR2.cells 2
      simp only [List.getElem?_toArray, List.getElem?_cons_zero, List.getElem?_cons_succ] at k0 k1 k2
      have hsh := hR2.short
      cases d
      · have hM := opM_none (HJ.out (by trivial))
        by_cases hl : ∃ m, l = 33 :: m
        · obtain ⟨m, rfl⟩ := hl
          have hB : opB (33 :: m) = .bad m := by
            unfold opB
            rw [hM]
            rfl
          obtain ⟨p, hp1, hp2, hp3, hp4⟩ := hR2.at
          rw [hp1] at k1
          have g0 : decide ((p : Int) < (s.size : Int)) = true := by simp; omega
          have hpk : ∀ W, Ar 291 W b s (33 :: m) false → Calls Tryz.prog 224 #[.pointer (some ⟨b, 0, none⟩)] W fun e w' => e = .returned (.int .u8 33) ∧ ∃ n, w' = W.drewN n := fun W h => peekA b s (33 :: m) false W h
          go_wp2_with fail
          go_quiet ((go_at_call 224; exact Calls.quiet_of (hpk _ (hR2.drewN _))))
          go_wp2_with fail
          go_ret
          have hR3 : Ar 291 ((wr.drewN nq).setCell ⟨b, 1, none⟩ (.int .i64 ((p : Int) + 1))) b s m false := (hR2.drewN nq).set (List.suffix_cons 33 m) (by rw [hp2]; rfl)
          exact ⟨0, m, true, rfl, by rw [if_neg (by simp), hB]; exact ⟨rfl, rfl⟩, hR3.flag true, ((hF.drewN _).setCell1 1 _).setCell1 2 _⟩
        · have hB : opB l = .bad l := by
            unfold opB
            rw [hM]
            cases l with
            | nil => rfl
            | cons c m =>
              have : takeL [33] (c :: m) = none := by
                unfold takeL
                rw [if_neg]
                simp [List.isPrefixOf]
                rintro rfl
                exact hl ⟨m, rfl⟩
              rw [this]
              rfl
          cases l with
          | nil =>
            have hpk : ∀ W, Ar 291 W b s [] false → Calls Tryz.prog 224 #[.pointer (some ⟨b, 0, none⟩)] W fun e w' => e = .returned (.int .u8 0) ∧ ∃ n, w' = W.drewN n := fun W h => peekA b s [] false W h
            go_wp2_with fail
            go_quiet ((go_at_call 224; exact Calls.quiet_of (hpk _ (hR2.drewN _))))
            go_wp2_with fail
            go_ret
            exact ⟨0, [], true, rfl, by rw [if_neg (by simp), hB]; exact ⟨rfl, rfl⟩, (hR2.drewN _).flag true, (hF.drewN _).setCell1 2 _⟩
          | cons c m =>
            have hc : ((c.toNat : Int) == 33) = false := u8_ne (n := 33) (by omega) (by rintro rfl; exact hl ⟨m, rfl⟩)
            have hpk : ∀ W, Ar 291 W b s (c :: m) false → Calls Tryz.prog 224 #[.pointer (some ⟨b, 0, none⟩)] W fun e w' => e = .returned (.int .u8 (c.toNat : Int)) ∧ ∃ n, w' = W.drewN n := fun W h => peekA b s (c :: m) false W h
            go_wp2_with fail
            go_quiet ((go_at_call 224; exact Calls.quiet_of (hpk _ (hR2.drewN _))))
            go_wp2_with fail
            go_ret
            exact ⟨0, c :: m, true, rfl, by rw [if_neg (by simp), hB]; exact ⟨rfl, rfl⟩, (hR2.drewN _).flag true, (hF.drewN _).setCell1 2 _⟩
      · go_wp2_with fail
        go_quiet (fail)
        go_wp2_with fail
        go_ret
        exact ⟨0, l, true, rfl, by rw [if_pos rfl]; exact ⟨rfl, rfl⟩, (hR2.drewN _).flag true, (hF.drewN _).setCell1 2 _⟩
end Go.Proofs.YtdhmloejgoacaaaGreatDoor
