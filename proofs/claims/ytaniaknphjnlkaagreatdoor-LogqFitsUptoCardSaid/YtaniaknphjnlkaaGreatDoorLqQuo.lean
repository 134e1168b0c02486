/- A quoted text is read. -/
import Derived.Test.YtaniaknphjnlkaaGreatDoorLqBld
import Derived.Test.YtaniaknphjnlkaaGreatDoorLqBackP
namespace Go.Proofs.YtaniaknphjnlkaaGreatDoor
open Go.RowKit Go.Bl Go.Lq

def QuoRel (b B : Nat) (s : ByteArray) (pr : PR Bs) (c2 c3 c4 c5 : Value) (w wr : World) : Prop :=
  ∃ acc r, Rd wr b s r c2 c3 c4 c5 ∧ Lib.IsBuilder 82 5 B B (Lib.byteCells acc) wr ∧ quotedBody acc r = pr ∧ acc.length + r.length ≤ 1024 ∧ B < wr.heap.size ∧ Fr [b] w wr
theorem pos_less {w w' : World} {b : Nat} {s : ByteArray} {l l' : Bs} {c2 c3 c4 c5 : Value} (h : Rd w b s l c2 c3 c4 c5) (h' : Rd w' b s l' c2 c3 c4 c5) (hl : l'.length < l.length) : s.size - posIn w' b < s.size - posIn w b := by
  rw [posIn_set h, posIn_set h']
  have := h.left.1
  omega
theorem QuoRel.next {b B : Nat} {s : ByteArray} {pr : PR Bs} {c2 c3 c4 c5 : Value} {w w0 wr : World} {acc : Bs} {d : UInt8} {x : Value} {r r0 r1 : Bs} (hR0 : Rd w0 b s r0 c2 c3 c4 c5) (hR : Rd wr b s r1 c2 c3 c4 c5) (hs1 : r <:+ r1) (hs0 : r.length < r0.length)
    (hBd : Lib.BuilderAt 82 5 B B (.pointer (some ⟨B, 0, none⟩)) (Lib.byteCells acc ++ [x]) wr) (hx : x = .int .u8 (d.toNat : Int)) (hq : quotedBody (acc ++ [d]) r = pr) (hlen : acc.length + 1 + r.length ≤ 1024) (hB : B < wr.heap.size) (hb : b < B) (hF : Fr [b] w wr) {i : Int} (hi : i = ((s.size - r.length : Nat) : Int)) :
    QuoRel b B s pr c2 c3 c4 c5 w (wr.setCell ⟨b, 1, none⟩ (.int .i64 i)) ∧ s.size - posIn (wr.setCell ⟨b, 1, none⟩ (.int .i64 i)) b < s.size - posIn w0 b := by
  subst hx
  exact ⟨⟨acc ++ [d], r, hR.set hs1 hi, builder_set (.inr (by rw [Lib.byteCells_append]; exact hBd)) hb _, hq, by simp; omega, by have := (Fr.refl [b] wr).setCell1 1 (.int .i64 i) |>.size; omega, hF.setCell1 1 _⟩, pos_less hR0 (hR.set hs1 hi) hs0⟩
def quotedM : Bs → PR Bs
  | [] => .bad []
  | c :: cs => if c = 34 then quotedBody [] cs else .bad (c :: cs)
set_option maxRecDepth 100000 in
set_option maxHeartbeats 4000000 in
theorem quoted_any (b : Nat) (s : ByteArray) (l : Bs) (c2 c3 c4 c5 : Value) (w : World) (hR : Rd w b s l c2 c3 c4 c5) :
    Calls Tryz.prog 43 #[.pointer (some ⟨b, 0, none⟩)] w (Reads b s c2 c3 c4 c5 (quotedL l) (fun k => .string ⟨k.toArray⟩) w) := by
  go_enter Tryz.func43, Tryz.ntmps43
  go_wp2_with fail
  refine (byte_any b s l c2 c3 c4 c5 _ hR).mono ?_
  rintro e w1 ⟨rfl, hR1, hF1⟩
  obtain ⟨m, hm⟩ : ∃ m, skipL l = m := ⟨_, rfl⟩
  have hql : quotedL l = quotedM m := by rw [← hm]; rfl
  rw [hm] at hR1
  go_wp2_with fail
  refine (take_any b s ⟨#[34]⟩ m c2 c3 c4 c5 (by decide) _ hR1).mono ?_
  rintro e w2 ⟨rfl, hR2, hF2⟩
  obtain ⟨v, hv⟩ : ∃ v, takeL [34] m = v := ⟨_, rfl⟩
  rw [show takeL (ByteArray.data ⟨#[34]⟩).toList m = v from hv] at hR2 ⊢
  cases v with
  | none =>
    have hq2 : quotedL l = .bad m := by
      rw [hql]
      cases m with
      | nil => rfl
      | cons c cs =>
        have : ¬ c = 34 := by
          rintro rfl
          simp [takeL] at hv
        simp [quotedM, this]
    go_wp2_with fail
    refine (bad_any b s m c2 c3 c4 c5 _ hR2).mono ?_
    rintro e w3 ⟨rfl, rfl⟩
    go_wp2_with fail
    exact ⟨rfl, Reads.bad (hF1.trans hF2) hq2 rfl⟩
  | some l1 =>
    have hq2 : quotedL l = quotedBody [] l1 := by
      rw [hql]
      cases m with
      | nil => simp [takeL] at hv
      | cons c cs =>
        by_cases hc : c = 34
        · subst hc
          simp [takeL] at hv
          simp [quotedM, hv]
        · simp [takeL, List.isPrefixOf, Ne.symm hc] at hv
    have hF := hF1.trans hF2
    have hbl : b < w2.heap.size := lt_of_obj hR2.cells
    have hl1 : l1.length ≤ 1024 := Nat.le_trans hR2.left.1 hR2.short
    clear hql hm hv
    have H0 : QuoRel b w2.heap.size s (quotedBody [] l1) c2 c3 c4 c5 w (w2.alloc (.cells #[.pointer none, .slice none 0 0] 82)) :=
      ⟨[], l1, ⟨Bl.heap_alloc_old hR2.cells _, hR2.suf, hR2.short⟩, Lib.fresh_isBuilder _ 5 w2, rfl, by simpa using hl1, by simp, hF.alloc _⟩
    go_wp2_with fail
    go_loopw [] (fun wr => QuoRel b w2.heap.size s (quotedBody [] l1) c2 c3 c4 c5 w wr) (fun wr => s.size - posIn wr b)
    case atStart => exact H0
    case round =>
      clear H0
      obtain ⟨acc, r, hR3, hBd, hq, hlen, hBw, hF3⟩ := hrel
      have k0 := cell_of hR3.cells 0
      have k1 := cell_of hR3.cells 1
      have z1 := frozen_of hR3.cells 1
      simp only [List.getElem?_toArray, List.getElem?_cons_zero, List.getElem?_cons_succ] at k0 k1
      obtain ⟨p, hp⟩ : ∃ p, s.size - r.length = p := ⟨_, rfl⟩
      rw [hp] at k1
      have HB := Lib.hid hBd
      have HQ := Lib.hid hq
      have HL := Lib.hid hlen
      clear hBd hq hlen
      rcases r with _ | ⟨c, r⟩
      · obtain rfl : s.size = p := by simpa using hp
        have g0 : decide ((s.size : Int) < (s.size : Int)) = false := by simp
        go_wp2
        go_quiet (fail)
        go_wp2_with fail
        refine (bad_any b s [] c2 c3 c4 c5 _ (hR3.drewN _)).mono ?_
        rintro e w4 ⟨rfl, rfl⟩
        go_wp2_with fail
        exact ⟨rfl, Reads.bad (hF3.drewN _) (r := []) (by rw [hq2, ← HQ.out]; rfl) rfl⟩
      · obtain ⟨p', hp1, hp2, hp3, hp4⟩ := hR3.at
        obtain rfl : p' = p := by omega
        have g0 : decide ((p' : Int) < (s.size : Int)) = true := by simp; omega
        have g1 : (0 : Int) ≤ (p' : Int) ∧ (p' : Int) < (s.size : Int) := by omega
        have hsh := hR3.short
        go_wp2
        go_quiet (fail)
        go_wp2
        go_quiet (fail)
        by_cases q1 : c = 34
        · have q1a : ((c.toNat : Int) == 34) = true := by subst q1; rfl
          go_wp2_with fail
          refine (Tryz.Builder_String_any w2.heap.size w2.heap.size acc _ (builder_set (builder_drewN HB.out _) hbl _) (by simp; omega)).mono ?_
          rintro e w4 ⟨rfl, hb4⟩
          go_wp2_with fail
          go_ret
          have hR4 := (((hR3.drewN _).set (List.suffix_cons c r) (by rw [hp2]; go_num)).below hb4 hbl)
          exact Reads.ok (fr_below ((hF3.drewN _).setCell1 1 _) hb4 hF.size) (by rw [hq2, ← HQ.out, qb_cons, if_pos q1]) rfl hR4
        have q1a : ((c.toNat : Int) == 34) = false := by
          rw [show (34 : Int) = ((34 : Nat) : Int) from rfl, beq_u8 c 34 (by omega)]
          simpa using q1
        by_cases q2 : c = 10
        · have q2a : ((c.toNat : Int) == 10) = true := by subst q2; rfl
          go_wp2_with fail
          refine (bad_any b s (c :: r) c2 c3 c4 c5 _ (hR3.drewN _)).mono ?_
          rintro e w4 ⟨rfl, rfl⟩
          go_wp2_with fail
          exact ⟨rfl, Reads.bad (hF3.drewN _) (r := c :: r) (by rw [hq2, ← HQ.out, qb_cons, if_neg q1, if_pos q2]) rfl⟩
        have q2a : ((c.toNat : Int) == 10) = false := by
          rw [show (10 : Int) = ((10 : Nat) : Int) from rfl, beq_u8 c 10 (by omega)]
          simpa using q2
        by_cases q3 : c = 92
        · have q3a : ((c.toNat : Int) == 92) = true := by subst q3; rfl
          have hR5 : ∀ n, Rd ((wr.drewN n).setCell ⟨b, 1, none⟩ (.int .i64 ((p' : Int) + 1))) b s r c2 c3 c4 c5 := fun n => (hR3.drewN n).set (List.suffix_cons c r) (by rw [hp2]; go_num)
          go_wp2_with fail
          obtain ⟨n5, hn5⟩ : ∃ n5 : Nat, n5 = p' + 1 := ⟨_, rfl⟩
          rw [show ((p' : Int) + 1) = (n5 : Int) by omega] at hR5 ⊢
          have hn5a : p' < n5 := by omega
          rw [← hn5] at hp2
          have HN := Lib.hid hn5
          clear hn5
          cases r with
          | nil =>
            obtain rfl : s.size = n5 := by simpa using hp2
            have g5 : decide ((s.size : Int) < (s.size : Int)) = false := by simp
            go_quiet (fail)
            go_wp2_with fail
            refine (bad_any b s [] c2 c3 c4 c5 _ ((hR5 _).drewN _)).mono ?_
            rintro e w4 ⟨rfl, rfl⟩
            go_wp2_with fail
            exact ⟨rfl, Reads.bad (((hF3.drewN _).setCell1 1 _).drewN _) (r := []) (by rw [hq2, ← HQ.out, qb_cons, if_neg q1, if_neg q2, if_pos q3]) rfl⟩
          | cons d ds =>
            obtain ⟨n6, hm1, hm2, hm3, hm4⟩ := (hR5 0).at
            obtain rfl : n6 = n5 := by omega
            have g5 : (n6 : Int) < (s.size : Int) := by omega
            have g6 : (0 : Int) ≤ (n6 : Int) ∧ (n6 : Int) < (s.size : Int) := by omega
            by_cases e34 : d = 34
            · have hix : ∀ w, Calls Tryz.prog 61 #[.string ⟨#[34, 92, 110]⟩, .int .u8 34] w fun e w' => e = .returned (.int .i64 0) ∧ w' = w := by
                intro w
                have := Tryz.strings_IndexByte ⟨#[34, 92, 110]⟩ 34 w
                exact this
              go_quiet (fail)
              go_wp2_with fail
              go_quiet ((go_at_call 61; exact (hix _).mono (by rintro e w' ⟨rfl, rfl⟩; exact ⟨rfl, _, rfl⟩)))
              go_wp2_with fail
              refine (writeByte_any w2.heap.size w2.heap.size (Lib.byteCells acc) 34 _ (builder_drewN (builder_set (builder_drewN HB.out _) hbl _) _) (by rw [Lib.byteCells_length]; have := HL.out; omega) (by simp; omega)).mono ?_
              rintro e w4 ⟨rfl, hB4, hb4⟩
              have hR6 := ((hR5 _).drewN _).below hb4 hbl
              have j1 := cell_of hR6.cells 1
              have y1 := frozen_of hR6.cells 1
              simp only [List.getElem?_toArray, List.getElem?_cons_zero, List.getElem?_cons_succ] at j1
              rw [hm1] at j1
              have hF4 := fr_below (((hF3.drewN _).setCell1 1 (.int .i64 (n6 : Int))).drewN _) hb4 hF.size
              go_wp2_with fail
              refine QuoRel.next (d := 34) (r := ds) hR3 hR6 (List.suffix_cons d ds) (by simp; omega) hB4 rfl (by rw [← HQ.out, qb_cons, if_neg q1, if_neg q2, if_pos q3]; simp [e34]) ?_ (Nat.lt_of_lt_of_le hBw (by have := hb4.size; simpa using this)) hbl hF4 (by rw [hm2]; go_num)
              have := HL.out
              simp at this
              omega
            by_cases e92 : d = 92
            · have hix : ∀ w, Calls Tryz.prog 61 #[.string ⟨#[34, 92, 110]⟩, .int .u8 92] w fun e w' => e = .returned (.int .i64 1) ∧ w' = w := by
                intro w
                have := Tryz.strings_IndexByte ⟨#[34, 92, 110]⟩ 92 w
                exact this
              go_quiet (fail)
              go_wp2_with fail
              go_quiet ((go_at_call 61; exact (hix _).mono (by rintro e w' ⟨rfl, rfl⟩; exact ⟨rfl, _, rfl⟩)))
              go_wp2_with fail
              refine (writeByte_any w2.heap.size w2.heap.size (Lib.byteCells acc) 92 _ (builder_drewN (builder_set (builder_drewN HB.out _) hbl _) _) (by rw [Lib.byteCells_length]; have := HL.out; omega) (by simp; omega)).mono ?_
              rintro e w4 ⟨rfl, hB4, hb4⟩
              have hR6 := ((hR5 _).drewN _).below hb4 hbl
              have j1 := cell_of hR6.cells 1
              have y1 := frozen_of hR6.cells 1
              simp only [List.getElem?_toArray, List.getElem?_cons_zero, List.getElem?_cons_succ] at j1
              rw [hm1] at j1
              have hF4 := fr_below (((hF3.drewN _).setCell1 1 (.int .i64 (n6 : Int))).drewN _) hb4 hF.size
              go_wp2_with fail
              refine QuoRel.next (d := 92) (r := ds) hR3 hR6 (List.suffix_cons d ds) (by simp; omega) hB4 rfl (by rw [← HQ.out, qb_cons, if_neg q1, if_neg q2, if_pos q3]; simp [e92]) ?_ (Nat.lt_of_lt_of_le hBw (by have := hb4.size; simpa using this)) hbl hF4 (by rw [hm2]; go_num)
              have := HL.out
              simp at this
              omega
            by_cases e110 : d = 110
            · have hix : ∀ w, Calls Tryz.prog 61 #[.string ⟨#[34, 92, 110]⟩, .int .u8 110] w fun e w' => e = .returned (.int .i64 2) ∧ w' = w := by
                intro w
                have := Tryz.strings_IndexByte ⟨#[34, 92, 110]⟩ 110 w
                exact this
              go_quiet (fail)
              go_wp2_with fail
              go_quiet ((go_at_call 61; exact (hix _).mono (by rintro e w' ⟨rfl, rfl⟩; exact ⟨rfl, _, rfl⟩)))
              go_wp2_with fail
              refine (writeByte_any w2.heap.size w2.heap.size (Lib.byteCells acc) 10 _ (builder_drewN (builder_set (builder_drewN HB.out _) hbl _) _) (by rw [Lib.byteCells_length]; have := HL.out; omega) (by simp; omega)).mono ?_
              rintro e w4 ⟨rfl, hB4, hb4⟩
              have hR6 := ((hR5 _).drewN _).below hb4 hbl
              have j1 := cell_of hR6.cells 1
              have y1 := frozen_of hR6.cells 1
              simp only [List.getElem?_toArray, List.getElem?_cons_zero, List.getElem?_cons_succ] at j1
              rw [hm1] at j1
              have hF4 := fr_below (((hF3.drewN _).setCell1 1 (.int .i64 (n6 : Int))).drewN _) hb4 hF.size
              go_wp2_with fail
              refine QuoRel.next (d := 10) (r := ds) hR3 hR6 (List.suffix_cons d ds) (by simp; omega) hB4 rfl (by rw [← HQ.out, qb_cons, if_neg q1, if_neg q2, if_pos q3]; simp [e110]) ?_ (Nat.lt_of_lt_of_le hBw (by have := hb4.size; simpa using this)) hbl hF4 (by rw [hm2]; go_num)
              have := HL.out
              simp at this
              omega
            have hix : ∀ w, Calls Tryz.prog 61 #[.string ⟨#[34, 92, 110]⟩, .int .u8 (d.toNat : Int)] w fun e w' => e = .returned (.int .i64 (-1)) ∧ w' = w := by
              intro w
              have := Tryz.strings_IndexByte ⟨#[34, 92, 110]⟩ (d.toNat : Int) w
              have hd : (d.toNat : Int).toNat.toUInt8 = d := by simp
              rw [hd] at this
              have h0 : Lib.indexByte [34, 92, 110] d = -1 := by simp [Lib.indexByte, Ne.symm e34, Ne.symm e92, Ne.symm e110]
              rw [show (ByteArray.data ⟨#[34, 92, 110]⟩).toList = [34, 92, 110] from rfl, h0] at this
              exact this
            go_quiet (fail)
            go_wp2_with fail
            go_quiet ((go_at_call 61; exact (hix _).mono (by rintro e w' ⟨rfl, rfl⟩; exact ⟨rfl, _, rfl⟩)))
            go_wp2_with fail
            refine (bad_any b s (d :: ds) c2 c3 c4 c5 _ ((hR5 _).drewN _)).mono ?_
            rintro e w4 ⟨rfl, rfl⟩
            go_wp2_with fail
            exact ⟨rfl, Reads.bad (((hF3.drewN _).setCell1 1 _).drewN _) (r := d :: ds) (by rw [hq2, ← HQ.out, qb_cons, if_neg q1, if_neg q2, if_pos q3]; simp [e34, e92, e110]) rfl⟩
        have q3a : ((c.toNat : Int) == 92) = false := by
          rw [show (92 : Int) = ((92 : Nat) : Int) from rfl, beq_u8 c 92 (by omega)]
          simpa using q3
        go_wp2_with fail
        refine (writeByte_any w2.heap.size w2.heap.size (Lib.byteCells acc) (c.toNat : Int) _ (builder_drewN HB.out _) ?_ (by simp; omega)).mono ?_
        · rw [Lib.byteCells_length]; have := HL.out; omega
        rintro e w4 ⟨rfl, hB4, hb4⟩
        have hR4 := (hR3.drewN _).below hb4 hbl
        have j1 := cell_of hR4.cells 1
        have y1 := frozen_of hR4.cells 1
        simp only [List.getElem?_toArray, List.getElem?_cons_zero, List.getElem?_cons_succ] at j1
        rw [hp1] at j1
        have hF4 := fr_below (hF3.drewN _) hb4 hF.size
        have hz4 := hb4.size
        go_wp2_with fail
        refine QuoRel.next (d := c) (r := r) hR3 hR4 (List.suffix_cons c r) (by simp) hB4 rfl (by rw [← HQ.out, qb_cons, if_neg q1, if_neg q2, if_neg q3]) ?_ (Nat.lt_of_lt_of_le hBw hb4.size) hbl hF4 (by rw [hp2]; go_num)
        have := HL.out
        simp at this
        omega
end Go.Proofs.YtaniaknphjnlkaaGreatDoor
