/- The reader gives up (bad); a quoted text; a key; an operator. -/
import Derived.Test.YtaniaknphjnlkaaGreatDoorMf02
import Derived.WalkLawsBesides
import Derived.WalkMore
import Derived.Deep.LoopGhost
namespace Go.Proofs.YtaniaknphjnlkaaGreatDoor
open Go.RowKit Go.Bl Go.Lq

abbrev stopAt (s : ByteArray) (r : Bs) : Ending := .panicked [{ v := .iface 44 (.int .i64 ((s.size - r.length : Nat) : Int)), recovered := false }]
set_option maxRecDepth 100000 in
theorem bad_any (b : Nat) (s : ByteArray) (l : Bs) (c2 c3 c4 c5 : Value) (w : World) (hR : Rd w b s l c2 c3 c4 c5) :
    Calls Tryz.prog 26 #[.pointer (some ⟨b, 0, none⟩)] w fun e w' => e = stopAt s l ∧ w' = w := by
  have k1 := cell_of hR.cells 1
  simp only [List.getElem?_toArray, List.getElem?_cons_zero, List.getElem?_cons_succ] at k1
  go_enter Tryz.func26, Tryz.ntmps26
  go_wp2_with fail
  exact ⟨rfl, rfl, rfl⟩

/-- What a reading function leaves: the value and the reader behind it, or the panic. -/
def Reads {α : Type} (b : Nat) (s : ByteArray) (c2 c3 c4 c5 : Value) (pr : PR α) (val : α → Value) (w : World) (e : Ending) (w' : World) : Prop :=
  Fr [b] w w' ∧ match pr with
    | .ok v r => e = .returned (val v) ∧ Rd w' b s r c2 c3 c4 c5
    | .bad r => e = stopAt s r

def KeyRel (b : Nat) (s : ByteArray) (m : Bs) (q : Nat) (c2 c3 c4 c5 : Value) (w wr : World) : Prop :=
  ∃ a r, Rd wr b s r c2 c3 c4 c5 ∧ m = a ++ r ∧ s.size - r.length = q + a.length ∧ (a = [] ∨ ∃ c t, a = c :: t ∧ isHead c = true ∧ t.all isTail = true) ∧ Fr [b] w wr
theorem u8_all {P : UInt8 → Prop} (h : ∀ n : Fin 256, P (UInt8.ofNat n.val)) (c : UInt8) : P c := by
  have h1 := h ⟨c.toNat, c.toNat_lt⟩
  rwa [UInt8.ofNat_toNat] at h1
set_option maxRecDepth 100000 in
theorem head_or (c : UInt8) : isHead c = (decide (97 ≤ (c ||| 32).toNat ∧ (c ||| 32).toNat ≤ 122) || decide (c = 95)) := by
  revert c; refine u8_all ?_; decide
set_option maxRecDepth 100000 in
theorem bits_or (c : UInt8) : bits BinOp.or IntKind.u8 (c.toNat : Int) 32 = (((c ||| 32).toNat : Nat) : Int) := by
  revert c; refine u8_all ?_; decide
theorem beq_u8 (c : UInt8) (n : Nat) (hn : n < 256) : ((c.toNat : Int) == (n : Int)) = decide (c = UInt8.ofNat n) := by
  rw [Bool.eq_iff_iff]
  simp only [beq_iff_eq, decide_eq_true_eq]
  rw [← UInt8.toNat_inj, UInt8.toNat_ofNat_of_lt' hn]
  omega
def keyM : Bs → PR Bs
  | [] => .bad []
  | c :: cs => if isHead c then .ok (c :: cs.takeWhile isTail) (cs.dropWhile isTail) else .bad (c :: cs)
theorem keyL_of {l m : Bs} (h : skipL l = m) : keyL l = keyM m := by subst h; rfl
/-- The word that the reader has passed over. -/
theorem Rd.word {w : World} {b : Nat} {s : ByteArray} {a r : Bs} {q : Nat} {c2 c3 c4 c5 : Value} (h : Rd w b s r c2 c3 c4 c5) (hs : (a ++ r) <:+ s.data.toList) (hq : s.size - r.length = q + a.length) (hq2 : q = s.size - (a ++ r).length) :
    s.extract q (q + a.length) = ⟨a.toArray⟩ := by
  apply bs_ext
  rw [extract_list]
  have := drop_suf hs
  rw [bytes_len, ← hq2] at this
  rw [this]
  simp
theorem keyM_word {d : UInt8} {t r : Bs} (hd : isHead d = true) (ht : t.all isTail = true) (hr : ∀ c ∈ r.head?, isTail c = false) : keyM ((d :: t) ++ r) = .ok (d :: t) r := by
  rw [List.cons_append]
  show (if isHead d then (PR.ok (d :: (t ++ r).takeWhile isTail) ((t ++ r).dropWhile isTail) : PR Bs) else .bad _) = _
  rw [if_pos hd]
  have h1 : (t ++ r).takeWhile isTail = t ∧ (t ++ r).dropWhile isTail = r := by
    clear hd
    induction t with
    | nil =>
      cases r with
      | nil => simp
      | cons c r => simp [hr c (by simp)]
    | cons e t ih =>
      simp only [List.all_cons, Bool.and_eq_true] at ht
      have := ih ht.2
      simp [ht.1, this.1, this.2]
  rw [h1.1, h1.2]
theorem Reads.ok {α : Type} {b : Nat} {s : ByteArray} {c2 c3 c4 c5 : Value} {pr : PR α} {val : α → Value} {w w' : World} {v : α} {r : Bs} {x : Value} (hF : Fr [b] w w') (hp : pr = .ok v r) (hx : x = val v) (hR : Rd w' b s r c2 c3 c4 c5) :
    Reads b s c2 c3 c4 c5 pr val w (.returned x) w' := by
  refine ⟨hF, ?_⟩
  rw [hp, hx]
  exact ⟨rfl, hR⟩
theorem Reads.bad {α : Type} {b : Nat} {s : ByteArray} {c2 c3 c4 c5 : Value} {pr : PR α} {val : α → Value} {w w' : World} {r : Bs} {p : Nat} (hF : Fr [b] w w') (hp : pr = .bad r) (hx : s.size - r.length = p) :
    Reads b s c2 c3 c4 c5 pr val w (.panicked [{ v := .iface 44 (.int .i64 (p : Int)), recovered := false }]) w' := by
  refine ⟨hF, ?_⟩
  rw [hp, ← hx]
/-- One byte more of the word. -/
theorem KeyRel.next {b : Nat} {s : ByteArray} {m a r : Bs} {c : UInt8} {p q : Nat} {c2 c3 c4 c5 : Value} {w wr : World} {n : Nat} (hR2 : Rd wr b s (c :: r) c2 c3 c4 c5) (hma : m = a ++ c :: r) (hp1 : s.size - (c :: r).length = p) (hp2 : s.size - r.length = p + 1) (hp3 : p < s.size)
    (hqa : p = q + a.length) (ha : a = [] ∧ isHead c = true ∨ ∃ d t, a = d :: t ∧ isHead d = true ∧ t.all isTail = true ∧ isTail c = true) (hF : Fr [b] w wr) {i : Int} (hi : i = ((p + 1 : Nat) : Int)) :
    KeyRel b s m q c2 c3 c4 c5 w ((wr.drewN n).setCell ⟨b, 1, none⟩ (.int .i64 i)) ∧
      s.size - posIn ((wr.drewN n).setCell ⟨b, 1, none⟩ (.int .i64 i)) b < s.size - posIn wr b := by
  subst hi
  have hR3 : Rd ((wr.drewN n).setCell ⟨b, 1, none⟩ (.int .i64 ((p + 1 : Nat) : Int))) b s r c2 c3 c4 c5 := (hR2.drewN n).set (List.suffix_cons c r) (by rw [hp2])
  refine ⟨⟨a ++ [c], r, hR3, by simp [hma], by simp; omega, .inr ?_, (hF.drewN n).setCell1 1 _⟩, by have e1 := posIn_set hR3; have e2 := posIn_set hR2; rw [hp2] at e1; rw [hp1] at e2; rw [e1, e2]; omega⟩
  rcases ha with ⟨rfl, h⟩ | ⟨d, t, rfl, h1, h2, h3⟩
  · exact ⟨c, [], rfl, h, rfl⟩
  · exact ⟨d, t ++ [c], rfl, h1, by simp [h2, h3]⟩
theorem word_head {a : Bs} {c : UInt8} (ha : a = [] ∨ ∃ c t, a = c :: t ∧ isHead c = true ∧ t.all isTail = true) (hc : isHead c = true) :
    a = [] ∧ isHead c = true ∨ ∃ d t, a = d :: t ∧ isHead d = true ∧ t.all isTail = true ∧ isTail c = true := by
  rcases ha with rfl | ⟨d, t, rfl, h1, h2⟩
  · exact .inl ⟨rfl, hc⟩
  · exact .inr ⟨d, t, rfl, h1, h2, by simp [isTail, hc]⟩
set_option maxRecDepth 100000 in
theorem digit_of (c : UInt8) : isDigit c = decide (48 ≤ c.toNat ∧ c.toNat ≤ 57) := by
  revert c; refine u8_all ?_; decide
theorem tail_of (c : UInt8) : isTail c = (isHead c || isDigit c || c == 46) := rfl
set_option maxRecDepth 100000 in
set_option maxHeartbeats 4000000 in
theorem key_any (b : Nat) (s : ByteArray) (l : Bs) (c2 c3 c4 c5 : Value) (w : World) (hR : Rd w b s l c2 c3 c4 c5) :
    Calls Tryz.prog 41 #[.pointer (some ⟨b, 0, none⟩)] w (Reads b s c2 c3 c4 c5 (keyL l) (fun k => .string ⟨k.toArray⟩) w) := by
  go_enter Tryz.func41, Tryz.ntmps41
  go_wp2_with fail
  go_step3
  go_wp2_with fail
  refine (byte_any b s l c2 c3 c4 c5 _ hR).mono ?_
  rintro e w1 ⟨rfl, hR1, hF1⟩
  have k1 := cell_of hR1.cells 1
  simp only [List.getElem?_toArray, List.getElem?_cons_zero, List.getElem?_cons_succ] at k1
  obtain ⟨m, hm⟩ : ∃ m, skipL l = m := ⟨_, rfl⟩
  rw [hm] at hR1 k1
  obtain ⟨q, hq⟩ : ∃ q, s.size - m.length = q := ⟨_, rfl⟩
  rw [hq] at k1
  have hms := hR1.suf
  have hsz := hR1.short
  have H0 : KeyRel b s m q c2 c3 c4 c5 w w1 := ⟨[], m, hR1, rfl, by simpa using hq, .inl rfl, hF1⟩
  go_wp2_with fail
  go_step3
  go_wp2_with fail
  go_loopw [] (fun wr => KeyRel b s m q c2 c3 c4 c5 w wr) (fun wr => s.size - posIn wr b)
  case atStart => exact H0
  case round =>
    clear H0 hR1 k1
    obtain ⟨a, r, hR2, hma, hqa, ha, hF⟩ := hrel
    have k0 := cell_of hR2.cells 0
    have k1 := cell_of hR2.cells 1
    have z1 := frozen_of hR2.cells 1
    simp only [List.getElem?_toArray, List.getElem?_cons_zero, List.getElem?_cons_succ] at k0 k1
    obtain ⟨p, hp⟩ : ∃ p, s.size - r.length = p := ⟨_, rfl⟩
    rw [hp] at k1 hqa
    have hkl := keyL_of hm
    rcases r with _ | ⟨c, r⟩
    · obtain rfl : s.size = p := by simpa using hp
      have g0 : decide ((s.size : Int) < (s.size : Int)) = false := by simp
      rcases ha with rfl | ⟨d, t, rfl, hd, ht⟩
      · have g5 : ((s.size : Int) == (q : Int)) = true := by simp at hqa ⊢; omega
        go_wp2
        go_quiet (fail)
        go_wp2_with fail
        refine (bad_any b s [] c2 c3 c4 c5 _ (hR2.drewN _)).mono ?_
        rintro e w2 ⟨rfl, rfl⟩
        go_wp2_with fail
        exact ⟨rfl, Reads.bad (hF.drewN _) (r := []) (by rw [hkl, hma]; rfl) (by simpa using hqa)⟩
      · have g5 : ((s.size : Int) == (q : Int)) = false := by
          simp at hqa ⊢
          omega
        have g6 : q ≤ s.size := by omega
        have HQ := Lib.hid hqa
        clear hqa
        have g7 : (q : Int) ≤ (s.size : Int) := by omega
        have g8 : (0 : Int) ≤ (q : Int) ∧ (q : Int) ≤ (s.size : Int) := by omega
        go_wp2
        go_quiet (fail)
        go_wp2_with fail
        go_quiet (fail)
        go_wp2_with fail
        try rw [Exit.noGoto_ret]
        go_ret
        refine Reads.ok ((hF.drewN _).drewN _) (by rw [hkl, hma]; exact keyM_word hd ht (by simp)) ?_ ((hR2.drewN _).drewN _)
        have hw := hR2.word (hma ▸ hms) (q := q) (by simpa using HQ.out) (by rw [← hma, hq])
        rw [← hw, ← HQ.out]
        rfl
    · obtain ⟨p', hp1, hp2, hp3, hp4⟩ := hR2.at
      obtain rfl : p' = p := by omega
      have g0 : decide ((p' : Int) < (s.size : Int)) = true := by simp; omega
      have g1 : (0 : Int) ≤ (p' : Int) ∧ (p' : Int) < (s.size : Int) := by omega
      have hc : c.toNat < 256 := c.toNat_lt
      obtain ⟨x, hx⟩ : ∃ x, (c ||| 32).toNat = x := ⟨_, rfl⟩
      have hb := bits_or c
      have hh := head_or c
      rw [hx] at hb hh
      have HM := Lib.hid hma
      have HS := Lib.hid hms
      have HQ := Lib.hid hqa
      have HK := Lib.hid hkl
      have HA := Lib.hid ha
      clear hma hms hqa hkl ha
      have hsh := hR2.short
      go_wp2
      go_quiet (fail)
      go_wp2
      go_quiet (fail)
      by_cases q1 : 97 ≤ x ∧ x ≤ 122
      · obtain ⟨q1a, q1b⟩ := q1
        have q1c : (97 : Int) ≤ (x : Int) := by omega
        have q1d : (x : Int) ≤ 122 := by omega
        have HH : Hid (isHead c = true) := Lib.hid (by rw [hh]; simp [q1a, q1b])
        clear hh
        go_wp2
        exact KeyRel.next hR2 HM.out hp1 hp2 hp3 HQ.out (word_head HA.out HH.out) hF (by go_num)
      by_cases q2 : c = 95
      · have HH : Hid (isHead c = true) := Lib.hid (by subst q2; rfl)
        have q2a : ((c.toNat : Int) == 95) = true := by subst q2; rfl
        obtain rfl : x = 127 := by subst q2; rw [← hx]; rfl
        clear hh
        go_wp2
        exact KeyRel.next hR2 HM.out hp1 hp2 hp3 HQ.out (word_head HA.out HH.out) hF (by go_num)
      have hno : Hid (isHead c = false) := Lib.hid (by rw [hh]; simp [q2]; omega)
      have q2a : ((c.toNat : Int) == 95) = false := by
        rw [show (95 : Int) = ((95 : Nat) : Int) from rfl, beq_u8 c 95 (by omega)]
        simpa using q2
      clear hh
      have hx3 : x < 97 ∨ 97 ≤ x ∧ 122 < x := by omega
      rcases HA.out with ha | ⟨d, t, ha, hd, ht⟩
      · subst ha
        obtain rfl : p' = q := by simpa using HQ.out
        have q3 : ((p' : Int) == (p' : Int)) = true := by simp
        have q4 : ¬ p' < p' := by omega
        rcases hx3 with q5 | ⟨q5, q6⟩
        all_goals
          go_wp2_with fail
          refine (bad_any b s (c :: r) c2 c3 c4 c5 _ (hR2.drewN _)).mono ?_
          rintro e w2 ⟨rfl, rfl⟩
          go_wp2_with fail
          exact ⟨rfl, Reads.bad (hF.drewN _) (r := c :: r) (by rw [HK.out, HM.out]; simp [keyM, hno.out]) rfl⟩
      · subst ha
        have q3 : ((p' : Int) == (q : Int)) = false := by
          have := HQ.out
          simp at this ⊢
          omega
        have q4 : q < p' := by
          have := HQ.out
          simp at this
          omega
        have q4' : (q : Int) < (p' : Int) := by omega
        by_cases q7 : 48 ≤ c.toNat ∧ c.toNat ≤ 57
        · obtain ⟨q7a, q7b⟩ := q7
          have HT : Hid (isTail c = true) := Lib.hid (by rw [tail_of, digit_of]; simp [q7a, q7b])
          have q7c : (48 : Int) ≤ (c.toNat : Int) := by omega
          have q7d : (c.toNat : Int) ≤ 57 := by omega
          rcases hx3 with q5 | ⟨q5, q6⟩
          all_goals
            go_wp2_with fail
            exact KeyRel.next hR2 HM.out hp1 hp2 hp3 HQ.out (.inr ⟨d, t, rfl, hd, ht, HT.out⟩) hF (by go_num)
        by_cases q8 : c = 46
        · have HT : Hid (isTail c = true) := Lib.hid (by subst q8; rfl)
          have q8a : ((c.toNat : Int) == 46) = true := by subst q8; rfl
          have q8b : c.toNat < 48 := by subst q8; decide
          rcases hx3 with q5 | ⟨q5, q6⟩
          all_goals
            go_wp2_with fail
            exact KeyRel.next hR2 HM.out hp1 hp2 hp3 HQ.out (.inr ⟨d, t, rfl, hd, ht, HT.out⟩) hF (by go_num)
        have q8a : ((c.toNat : Int) == 46) = false := by
          rw [show (46 : Int) = ((46 : Nat) : Int) from rfl, beq_u8 c 46 (by omega)]
          simpa using q8
        have HT : Hid (isTail c = false) := Lib.hid (by rw [tail_of, digit_of, hno.out]; simp [q8]; omega)
        have q9 : c.toNat < 48 ∨ 48 ≤ c.toNat ∧ 57 < c.toNat := by omega
        have g6 : q ≤ s.size := by omega
        have g7 : (p' : Int) ≤ (s.size : Int) := by omega
        have g8 : (q : Int) ≤ (p' : Int) := by omega
        have g9 : p' ≤ s.size := by omega
        have g10 : q ≤ p' := by omega
        rcases hx3 with q5 | ⟨q5, q6⟩
        all_goals
          rcases q9 with q9 | ⟨q9, q10⟩
          all_goals
            go_wp2_with fail
            go_quiet (fail)
            go_wp2_with fail
            try rw [Exit.noGoto_ret]
            go_ret
            refine Reads.ok ((hF.drewN _).drewN _) (by rw [HK.out, HM.out]; exact keyM_word hd ht (by simp [HT.out])) ?_ ((hR2.drewN _).drewN _)
            have hw := hR2.word (HM.out ▸ HS.out) (q := q) (by rw [hp1]; exact HQ.out) (by rw [← HM.out, hq])
            rw [← hw, ← HQ.out]
            rfl
end Go.Proofs.YtaniaknphjnlkaaGreatDoor
