/- A strings.Builder that the call has made: copyCheck and WriteByte (the shelf's contracts did not lay over this dump), String. -/
import Derived.Test.YtdhmloejgoacaaaGreatDoorMw03
import Derived.Test.YtdhmloejgoacaaaGreatDoorShelf
import Derived.Test.YtdhmloejgoacaaaGreatDoorMw04
set_option linter.unusedVariables false
set_option linter.unusedSimpArgs false
namespace Go.Proofs.YtdhmloejgoacaaaGreatDoor
open Go.RowKit Go.Bl Go.Lq

abbrev tB : TypeId := 142
set_option maxRecDepth 100000 in
set_option maxHeartbeats 4000000 in
theorem copyCheck_any (B b : Nat) (bs : List Value) (w : World) (h : Lib.IsBuilder 142 5 B b bs w) :
    Calls Tryz.prog 117 #[.pointer (some ⟨b, 0, none⟩)] w fun e w' =>
      e = .returned (.tuple #[]) ∧ (Lib.BuilderAt 142 5 B b (.pointer (some ⟨b, 0, none⟩)) bs w' ∧ Below B w w') := by
  obtain ⟨j, hj, hjs⟩ := Option.map_eq_some_iff.1 Tryz.Builder_Extra_169.sizeBuilder
  rcases h with h | h
  · have h0 := h.cell0
    have hf := h.frozen0
    go_enter Tryz.func117, Tryz.ntmps117
    go_wp2
    rw [Lib.run_to_unsafe w ⟨b, 0, none⟩ Tryz.underlying139 Tryz.underlying171 hj (by rw [hjs]; decide) h.shape (Nat.zero_lt_succ 1)]
    simp only [Result.andThen]
    rw [Oper.upon_value]
    go_wp2
    rw [run_callFunc_extern Tryz.func136 (by kernel_rfl) (by kernel_rfl) (by kernel_rfl) (e := Extern.AbiNoEscape.same) (by kernel_rfl)]
    rw [Lib.run_noEscape]
    simp only [Result.andThen]
    rw [Oper.upon_value]
    go_wp2
    rw [Lib.run_from_unsafe w ⟨b, 0, none⟩ Tryz.underlying171 Tryz.underlying139 hj h.shape Tryz.Builder_Extra_169.liesBuilder]
    simp only [Result.andThen]
    rw [Oper.upon_value]
    go_wp2
    go_end0
    exact ⟨rfl, h.used _, (Below.refl B w).setCell (p := ⟨b, 0, none⟩) h.1 _⟩
  · have h0 := h.cell0
    go_enter Tryz.func117, Tryz.ntmps117
    go_wp2
    rw [Lib.run_neq_ptr_same w _ Tryz.underlying139 hj]
    go_wp2
    go_end0
    exact ⟨rfl, h, Below.refl B _⟩

set_option maxRecDepth 100000 in
set_option maxHeartbeats 4000000 in
theorem writeByte_any (B b : Nat) (bs : List Value) (c : Int) (w : World) (h : Lib.IsBuilder 142 5 B b bs w) (hlen : bs.length + 1 ≤ 140737488355328) (hBw : B ≤ w.heap.size) :
    Calls Tryz.prog 98 #[.pointer (some ⟨b, 0, none⟩), .int .u8 c] w fun e w' =>
      e = .returned .nilIface ∧ (Lib.BuilderAt 142 5 B b (.pointer (some ⟨b, 0, none⟩)) (bs ++ [.int .u8 c]) w' ∧ Below B w w') := by
  obtain ⟨i0, hi, hz0, hz1, hz2⟩ := info_parts Tryz.Builder_Extra_169.infoByte
  go_enter Tryz.func98, Tryz.ntmps98
  go_wp2_with fail
  refine (copyCheck_any B b bs _ h).mono ?_
  rintro e w1 ⟨rfl, h1, hb1⟩
  obtain ⟨hB, v, hbk, hown, hne⟩ := h1
  have c0 : w1.cell? ⟨b, 0, none⟩ = some (.pointer (some ⟨b, 0, none⟩)) := by rw [Lib.cell_of_heap hbk]; rfl
  have c1 : w1.cell? ⟨b, 1, none⟩ = some v := by rw [Lib.cell_of_heap hbk]; rfl
  have hz1b := hb1.size
  go_wp2_with (at_builtin; refine wpList_append_own _ rfl _ _ 140 rfl B 5 i0 (.int .u8 0) 1 1 Tryz.underlying140 hi hz0 hz1 hz2 rfl (by decide) _ _ _ rfl (hown.alloc _) ⟨w1.heap.size, 0, none⟩ 1 1 [.int .u8 c] rfl rfl ?c1 ?c2 ?c3 ?c4 ?c5 ?_)
  case c1 =>
    intro j u hj
    match j, hj with
    | 0, hj => simp at hj; subst hj; simp [Addr.add]
  case c2 => intro u hu; simp at hu; subst hu; rfl
  case c3 => unfold maxLen; omega
  case c4 => omega
  case c5 => simp; omega
  intro v' w2 hown' hgrow _
  have hlt : b < w1.heap.size := lt_of_obj hbk
  have hb2 : w2.heap[b]? = some (.cells #[.pointer (some ⟨b, 0, none⟩), v] 142 (0, 0)) := by
    rw [hgrow.block b (by simp; omega) (fun e => hne e.symm), Lib.alloc_old w1 _ b hlt]
    exact hbk
  have d0 : w2.cell? ⟨b, 0, none⟩ = some (.pointer (some ⟨b, 0, none⟩)) := by rw [Lib.cell_of_heap hb2]; rfl
  have d1 : w2.cell? ⟨b, 1, none⟩ = some v := by rw [Lib.cell_of_heap hb2]; rfl
  have f1 : w2.frozen? ⟨b, 1, none⟩ = false := Lib.frozen_of_heap hb2 1
  obtain ⟨g, cap, rfl⟩ : ∃ g cap, v' = .slice (some ⟨g, 0, none⟩) (bs.length + 1) cap := by
    rcases hown'.2 with ⟨_, h0⟩ | ⟨g, cap, cur, hv, _⟩
    · omega
    · exact ⟨g, cap, hv⟩
  go_wp2_with fail
  go_ret
  refine ⟨rfl, ?_, ?_⟩
  · exact Lib.BuilderAt.put (T := 142) (e := 5) hB hb2 (bs' := bs ++ [.int .u8 c]) (by simpa using hown') (by decide)
  · exact ((hb1.alloc (by omega) _).grown hgrow (by simp; omega) (fun k hk => (hown.lt k hk).1)).setCell (p := ⟨b, 1, none⟩) hB _

/-- A builder stands though an older cell is written. -/
theorem builder_set {B b : Nat} {bs : List Value} {w : World} (h : Lib.IsBuilder 142 5 B b bs w) {a : Addr} (ha : a.block < B) (u : Value) : Lib.IsBuilder 142 5 B b bs (w.setCell a u) := by
  have key : ∀ p, Lib.BuilderAt 142 5 B b p bs w → Lib.BuilderAt 142 5 B b p bs (w.setCell a u) := by
    rintro p ⟨hB, v, hb, hown, hne⟩
    exact ⟨hB, v, by rw [Below.heap_setCell w a u b (by omega)]; exact hb, ownsRow_setCell_below hown ha u, hne⟩
  exact h.elim (fun x => .inl (key _ x)) (fun x => .inr (key _ x))
theorem builder_drewN {B b : Nat} {bs : List Value} {w : World} (h : Lib.IsBuilder 142 5 B b bs w) (n : Nat) : Lib.IsBuilder 142 5 B b bs (w.drewN n) := h
theorem fr_below {S : List Nat} {a b c : World} (h : Fr S a b) {B : Nat} (k : Below B b c) (hB : a.heap.size ≤ B) : Fr S a c :=
  ⟨k.os.trans h.os, k.tape.trans h.tape, k.output.trans h.output, Nat.le_trans h.size k.size, fun i hi hS => (k.block i (by omega)).trans (h.block i hi hS)⟩
theorem Rd.below {w w' : World} {b B : Nat} {s : ByteArray} {l : Bs} {c2 c3 c4 c5 : Value} (h : Rd w b s l c2 c3 c4 c5) (k : Below B w w') (hb : b < B) : Rd w' b s l c2 c3 c4 c5 :=
  ⟨by rw [k.block b hb]; exact h.cells, h.suf, h.short⟩
end Go.Proofs.YtdhmloejgoacaaaGreatDoor
namespace Go.Proofs.YtdhmloejgoacaaaGreatDoor
open Go.RowKit Go.Bl Go.Lq

def QuoRel (b B : Nat) (s : ByteArray) (pr : PR Bs) (c2 c3 c4 c5 : Value) (w wr : World) : Prop :=
  ∃ acc r, Rd wr b s r c2 c3 c4 c5 ∧ Lib.IsBuilder 142 5 B B (Lib.byteCells acc) wr ∧ quotedBody acc r = pr ∧ acc.length + r.length ≤ 1024 ∧ B < wr.heap.size ∧ Fr [b] w wr
theorem pos_less {w w' : World} {b : Nat} {s : ByteArray} {l l' : Bs} {c2 c3 c4 c5 : Value} (h : Rd w b s l c2 c3 c4 c5) (h' : Rd w' b s l' c2 c3 c4 c5) (hl : l'.length < l.length) : s.size - posIn w' b < s.size - posIn w b := by
  rw [posIn_set h, posIn_set h']
  have := h.left.1
  omega
theorem QuoRel.next {b B : Nat} {s : ByteArray} {pr : PR Bs} {c2 c3 c4 c5 : Value} {w w0 wr : World} {acc : Bs} {d : UInt8} {x : Value} {r r0 r1 : Bs} (hR0 : Rd w0 b s r0 c2 c3 c4 c5) (hR : Rd wr b s r1 c2 c3 c4 c5) (hs1 : r <:+ r1) (hs0 : r.length < r0.length)
    (hBd : Lib.BuilderAt 142 5 B B (.pointer (some ⟨B, 0, none⟩)) (Lib.byteCells acc ++ [x]) wr) (hx : x = .int .u8 (d.toNat : Int)) (hq : quotedBody (acc ++ [d]) r = pr) (hlen : acc.length + 1 + r.length ≤ 1024) (hB : B < wr.heap.size) (hb : b < B) (hF : Fr [b] w wr) {i : Int} (hi : i = ((s.size - r.length : Nat) : Int)) :
    QuoRel b B s pr c2 c3 c4 c5 w (wr.setCell ⟨b, 1, none⟩ (.int .i64 i)) ∧ s.size - posIn (wr.setCell ⟨b, 1, none⟩ (.int .i64 i)) b < s.size - posIn w0 b := by
  subst hx
  exact ⟨⟨acc ++ [d], r, hR.set hs1 hi, builder_set (.inr (by rw [Lib.byteCells_append]; exact hBd)) hb _, hq, by simp; omega, by have := (Fr.refl [b] wr).setCell1 1 (.int .i64 i) |>.size; omega, hF.setCell1 1 _⟩, pos_less hR0 (hR.set hs1 hi) hs0⟩
def quotedM : Bs → PR Bs
  | [] => .bad []
  | c :: cs => if c = 34 then quotedBody [] cs else .bad (c :: cs)
set_option maxRecDepth 100000 in
set_option maxHeartbeats 4000000 in
theorem quoted_any (b : Nat) (s : ByteArray) (l : Bs) (c2 c3 c4 c5 : Value) (w : World) (hR : Rd w b s l c2 c3 c4 c5) :
    Calls Tryz.prog 74 #[.pointer (some ⟨b, 0, none⟩)] w (Reads b s c2 c3 c4 c5 (quotedL l) (fun k => .string ⟨k.toArray⟩) w) := by
  go_enter Tryz.func74, Tryz.ntmps74
  go_wp2_with fail
  refine (byte_any b s l c2 c3 c4 c5 _ hR).mono ?_
  rintro e w1 ⟨rfl, hR1, hF1⟩
  obtain ⟨m, hm⟩ : ∃ m, skipL l = m := ⟨_, rfl⟩
  have hql : quotedL l = quotedM m := by rw [← hm]; rfl
  rw [hm] at hR1
  go_wp2_with fail
  refine (take_any b s ⟨#[34]⟩ m c2 c3 c4 c5 (by decide) _ hR1).mono ?_
  rintro e w2 ⟨rfl, hR2, hF2⟩
  obtain ⟨v, hv⟩ : ∃ v, takeL [34] m = v := ⟨_, rfl⟩
  rw [show takeL (ByteArray.data ⟨#[34]⟩).toList m = v from hv] at hR2 ⊢
  cases v with
  | none =>
    have hq2 : quotedL l = .bad m := by
      rw [hql]
      cases m with
      | nil => rfl
      | cons c cs =>
        have : ¬ c = 34 := by
          rintro rfl
          simp [takeL] at hv
        simp [quotedM, this]
    go_wp2_with fail
    refine (bad_any b s m c2 c3 c4 c5 _ hR2).mono ?_
    rintro e w3 ⟨rfl, rfl⟩
    go_wp2_with fail
    exact ⟨rfl, Reads.bad (hF1.trans hF2) hq2 rfl⟩
  | some l1 =>
    have hq2 : quotedL l = quotedBody [] l1 := by
      rw [hql]
      cases m with
      | nil => simp [takeL] at hv
      | cons c cs =>
        by_cases hc : c = 34
        · subst hc
          simp [takeL] at hv
          simp [quotedM, hv]
        · simp [takeL, List.isPrefixOf, Ne.symm hc] at hv
    have hF := hF1.trans hF2
    have hbl : b < w2.heap.size := lt_of_obj hR2.cells
    have hl1 : l1.length ≤ 1024 := Nat.le_trans hR2.left.1 hR2.short
    clear hql hm hv
    have H0 : QuoRel b w2.heap.size s (quotedBody [] l1) c2 c3 c4 c5 w (w2.alloc (.cells #[.pointer none, .slice none 0 0] 142)) :=
      ⟨[], l1, ⟨Bl.heap_alloc_old hR2.cells _, hR2.suf, hR2.short⟩, Lib.fresh_isBuilder _ 5 w2, rfl, by simpa using hl1, by simp, hF.alloc _⟩
    go_wp2_with fail
    go_loopw [] (fun wr => QuoRel b w2.heap.size s (quotedBody [] l1) c2 c3 c4 c5 w wr) (fun wr => s.size - posIn wr b)
    case atStart => exact H0
    case round =>
      clear H0
      obtain ⟨acc, r, hR3, hBd, hq, hlen, hBw, hF3⟩ := hrel
      have k0 := cell_of hR3.cells 0
      have k1 := cell_of hR3.cells 1
      have z1 := frozen_of hR3.cells 1
      simp only [List.getElem?_toArray, List.getElem?_cons_zero, List.getElem?_cons_succ] at k0 k1
      obtain ⟨p, hp⟩ : ∃ p, s.size - r.length = p := ⟨_, rfl⟩
      rw [hp] at k1
      have HB := Lib.hid hBd
      have HQ := Lib.hid hq
      have HL := Lib.hid hlen
      clear hBd hq hlen
      rcases r with _ | ⟨c, r⟩
      · obtain rfl : s.size = p := by simpa using hp
        have g0 : decide ((s.size : Int) < (s.size : Int)) = false := by simp
        go_wp2
        go_quiet (fail)
        go_wp2_with fail
        refine (bad_any b s [] c2 c3 c4 c5 _ (hR3.drewN _)).mono ?_
        rintro e w4 ⟨rfl, rfl⟩
        go_wp2_with fail
        exact ⟨rfl, Reads.bad (hF3.drewN _) (r := []) (by rw [hq2, ← HQ.out]; rfl) rfl⟩
      · obtain ⟨p', hp1, hp2, hp3, hp4⟩ := hR3.at
        obtain rfl : p' = p := by omega
        have g0 : decide ((p' : Int) < (s.size : Int)) = true := by simp; omega
        have g1 : (0 : Int) ≤ (p' : Int) ∧ (p' : Int) < (s.size : Int) := by omega
        have hsh := hR3.short
        go_wp2
        go_quiet (fail)
        go_wp2
        go_quiet (fail)
        by_cases q1 : c = 34
        · have q1a : ((c.toNat : Int) == 34) = true := by subst q1; rfl
          go_wp2_with fail
          refine (Tryz.Builder_String_any w2.heap.size w2.heap.size acc _ (builder_set (builder_drewN HB.out _) hbl _) (by simp; omega)).mono ?_
          rintro e w4 ⟨rfl, hb4⟩
          go_wp2_with fail
          go_ret
          have hR4 := (((hR3.drewN _).set (List.suffix_cons c r) (by rw [hp2]; go_num)).below hb4 hbl)
          exact Reads.ok (fr_below ((hF3.drewN _).setCell1 1 _) hb4 hF.size) (by rw [hq2, ← HQ.out, qb_cons, if_pos q1]) rfl hR4
        have q1a : ((c.toNat : Int) == 34) = false := by
          rw [show (34 : Int) = ((34 : Nat) : Int) from rfl, beq_u8 c 34 (by omega)]
          simpa using q1
        by_cases q2 : c = 10
        · have q2a : ((c.toNat : Int) == 10) = true := by subst q2; rfl
          go_wp2_with fail
          refine (bad_any b s (c :: r) c2 c3 c4 c5 _ (hR3.drewN _)).mono ?_
          rintro e w4 ⟨rfl, rfl⟩
          go_wp2_with fail
          exact ⟨rfl, Reads.bad (hF3.drewN _) (r := c :: r) (by rw [hq2, ← HQ.out, qb_cons, if_neg q1, if_pos q2]) rfl⟩
        have q2a : ((c.toNat : Int) == 10) = false := by
          rw [show (10 : Int) = ((10 : Nat) : Int) from rfl, beq_u8 c 10 (by omega)]
          simpa using q2
        by_cases q3 : c = 92
        · have q3a : ((c.toNat : Int) == 92) = true := by subst q3; rfl
          have hR5 : ∀ n, Rd ((wr.drewN n).setCell ⟨b, 1, none⟩ (.int .i64 ((p' : Int) + 1))) b s r c2 c3 c4 c5 := fun n => (hR3.drewN n).set (List.suffix_cons c r) (by rw [hp2]; go_num)
          go_wp2_with fail
          obtain ⟨n5, hn5⟩ : ∃ n5 : Nat, n5 = p' + 1 := ⟨_, rfl⟩
          rw [show ((p' : Int) + 1) = (n5 : Int) by omega] at hR5 ⊢
          have hn5a : p' < n5 := by omega
          rw [← hn5] at hp2
          have HN := Lib.hid hn5
          clear hn5
          cases r with
          | nil =>
            obtain rfl : s.size = n5 := by simpa using hp2
            have g5 : decide ((s.size : Int) < (s.size : Int)) = false := by simp
            go_quiet (fail)
            go_wp2_with fail
            refine (bad_any b s [] c2 c3 c4 c5 _ ((hR5 _).drewN _)).mono ?_
            rintro e w4 ⟨rfl, rfl⟩
            go_wp2_with fail
            exact ⟨rfl, Reads.bad (((hF3.drewN _).setCell1 1 _).drewN _) (r := []) (by rw [hq2, ← HQ.out, qb_cons, if_neg q1, if_neg q2, if_pos q3]) rfl⟩
          | cons d ds =>
            obtain ⟨n6, hm1, hm2, hm3, hm4⟩ := (hR5 0).at
            obtain rfl : n6 = n5 := by omega
            have g5 : (n6 : Int) < (s.size : Int) := by omega
            have g6 : (0 : Int) ≤ (n6 : Int) ∧ (n6 : Int) < (s.size : Int) := by omega
            by_cases e34 : d = 34
            · have hix : ∀ w, Calls Tryz.prog 97 #[.string ⟨#[34, 92, 110]⟩, .int .u8 34] w fun e w' => e = .returned (.int .i64 0) ∧ w' = w := by
                intro w
                have := Tryz.strings_IndexByte ⟨#[34, 92, 110]⟩ 34 w
                exact this
              go_quiet (fail)
              go_wp2_with fail
              go_quiet ((go_at_call 97; exact (hix _).mono (by rintro e w' ⟨rfl, rfl⟩; exact ⟨rfl, _, rfl⟩)))
              go_wp2_with fail
              refine (writeByte_any w2.heap.size w2.heap.size (Lib.byteCells acc) 34 _ (builder_drewN (builder_set (builder_drewN HB.out _) hbl _) _) (by rw [Lib.byteCells_length]; have := HL.out; omega) (by simp; omega)).mono ?_
              rintro e w4 ⟨rfl, hB4, hb4⟩
              have hR6 := ((hR5 _).drewN _).below hb4 hbl
              have j1 := cell_of hR6.cells 1
              have y1 := frozen_of hR6.cells 1
              simp only [List.getElem?_toArray, List.getElem?_cons_zero, List.getElem?_cons_succ] at j1
              rw [hm1] at j1
              have hF4 := fr_below (((hF3.drewN _).setCell1 1 (.int .i64 (n6 : Int))).drewN _) hb4 hF.size
              go_wp2_with fail
              refine QuoRel.next (d := 34) (r := ds) hR3 hR6 (List.suffix_cons d ds) (by simp; omega) hB4 rfl (by rw [← HQ.out, qb_cons, if_neg q1, if_neg q2, if_pos q3]; simp [e34]) ?_ (Nat.lt_of_lt_of_le hBw (by have := hb4.size; simpa using this)) hbl hF4 (by rw [hm2]; go_num)
              have := HL.out
              simp at this
              omega
            by_cases e92 : d = 92
            · have hix : ∀ w, Calls Tryz.prog 97 #[.string ⟨#[34, 92, 110]⟩, .int .u8 92] w fun e w' => e = .returned (.int .i64 1) ∧ w' = w := by
                intro w
                have := Tryz.strings_IndexByte ⟨#[34, 92, 110]⟩ 92 w
                exact this
              go_quiet (fail)
              go_wp2_with fail
              go_quiet ((go_at_call 97; exact (hix _).mono (by rintro e w' ⟨rfl, rfl⟩; exact ⟨rfl, _, rfl⟩)))
              go_wp2_with fail
              refine (writeByte_any w2.heap.size w2.heap.size (Lib.byteCells acc) 92 _ (builder_drewN (builder_set (builder_drewN HB.out _) hbl _) _) (by rw [Lib.byteCells_length]; have := HL.out; omega) (by simp; omega)).mono ?_
              rintro e w4 ⟨rfl, hB4, hb4⟩
              have hR6 := ((hR5 _).drewN _).below hb4 hbl
              have j1 := cell_of hR6.cells 1
              have y1 := frozen_of hR6.cells 1
              simp only [List.getElem?_toArray, List.getElem?_cons_zero, List.getElem?_cons_succ] at j1
              rw [hm1] at j1
              have hF4 := fr_below (((hF3.drewN _).setCell1 1 (.int .i64 (n6 : Int))).drewN _) hb4 hF.size
              go_wp2_with fail
              refine QuoRel.next (d := 92) (r := ds) hR3 hR6 (List.suffix_cons d ds) (by simp; omega) hB4 rfl (by rw [← HQ.out, qb_cons, if_neg q1, if_neg q2, if_pos q3]; simp [e92]) ?_ (Nat.lt_of_lt_of_le hBw (by have := hb4.size; simpa using this)) hbl hF4 (by rw [hm2]; go_num)
              have := HL.out
              simp at this
              omega
            by_cases e110 : d = 110
            · have hix : ∀ w, Calls Tryz.prog 97 #[.string ⟨#[34, 92, 110]⟩, .int .u8 110] w fun e w' => e = .returned (.int .i64 2) ∧ w' = w := by
                intro w
                have := Tryz.strings_IndexByte ⟨#[34, 92, 110]⟩ 110 w
                exact this
              go_quiet (fail)
              go_wp2_with fail
              go_quiet ((go_at_call 97; exact (hix _).mono (by rintro e w' ⟨rfl, rfl⟩; exact ⟨rfl, _, rfl⟩)))
              go_wp2_with fail
              refine (writeByte_any w2.heap.size w2.heap.size (Lib.byteCells acc) 10 _ (builder_drewN (builder_set (builder_drewN HB.out _) hbl _) _) (by rw [Lib.byteCells_length]; have := HL.out; omega) (by simp; omega)).mono ?_
              rintro e w4 ⟨rfl, hB4, hb4⟩
              have hR6 := ((hR5 _).drewN _).below hb4 hbl
              have j1 := cell_of hR6.cells 1
              have y1 := frozen_of hR6.cells 1
              simp only [List.getElem?_toArray, List.getElem?_cons_zero, List.getElem?_cons_succ] at j1
              rw [hm1] at j1
              have hF4 := fr_below (((hF3.drewN _).setCell1 1 (.int .i64 (n6 : Int))).drewN _) hb4 hF.size
              go_wp2_with fail
              refine QuoRel.next (d := 10) (r := ds) hR3 hR6 (List.suffix_cons d ds) (by simp; omega) hB4 rfl (by rw [← HQ.out, qb_cons, if_neg q1, if_neg q2, if_pos q3]; simp [e110]) ?_ (Nat.lt_of_lt_of_le hBw (by have := hb4.size; simpa using this)) hbl hF4 (by rw [hm2]; go_num)
              have := HL.out
              simp at this
              omega
            have hix : ∀ w, Calls Tryz.prog 97 #[.string ⟨#[34, 92, 110]⟩, .int .u8 (d.toNat : Int)] w fun e w' => e = .returned (.int .i64 (-1)) ∧ w' = w := by
              intro w
              have := Tryz.strings_IndexByte ⟨#[34, 92, 110]⟩ (d.toNat : Int) w
              have hd : (d.toNat : Int).toNat.toUInt8 = d := by simp
              rw [hd] at this
              have h0 : Lib.indexByte [34, 92, 110] d = -1 := by simp [Lib.indexByte, Ne.symm e34, Ne.symm e92, Ne.symm e110]
              rw [show (ByteArray.data ⟨#[34, 92, 110]⟩).toList = [34, 92, 110] from rfl, h0] at this
              exact this
            go_quiet (fail)
            go_wp2_with fail
            go_quiet ((go_at_call 97; exact (hix _).mono (by rintro e w' ⟨rfl, rfl⟩; exact ⟨rfl, _, rfl⟩)))
            go_wp2_with fail
            refine (bad_any b s (d :: ds) c2 c3 c4 c5 _ ((hR5 _).drewN _)).mono ?_
            rintro e w4 ⟨rfl, rfl⟩
            go_wp2_with fail
            exact ⟨rfl, Reads.bad (((hF3.drewN _).setCell1 1 _).drewN _) (r := d :: ds) (by rw [hq2, ← HQ.out, qb_cons, if_neg q1, if_neg q2, if_pos q3]; simp [e34, e92, e110]) rfl⟩
        have q3a : ((c.toNat : Int) == 92) = false := by
          rw [show (92 : Int) = ((92 : Nat) : Int) from rfl, beq_u8 c 92 (by omega)]
          simpa using q3
        go_wp2_with fail
        refine (writeByte_any w2.heap.size w2.heap.size (Lib.byteCells acc) (c.toNat : Int) _ (builder_drewN HB.out _) ?_ (by simp; omega)).mono ?_
        · rw [Lib.byteCells_length]; have := HL.out; omega
        rintro e w4 ⟨rfl, hB4, hb4⟩
        have hR4 := (hR3.drewN _).below hb4 hbl
        have j1 := cell_of hR4.cells 1
        have y1 := frozen_of hR4.cells 1
        simp only [List.getElem?_toArray, List.getElem?_cons_zero, List.getElem?_cons_succ] at j1
        rw [hp1] at j1
        have hF4 := fr_below (hF3.drewN _) hb4 hF.size
        have hz4 := hb4.size
        go_wp2_with fail
        refine QuoRel.next (d := c) (r := r) hR3 hR4 (List.suffix_cons c r) (by simp) hB4 rfl (by rw [← HQ.out, qb_cons, if_neg q1, if_neg q2, if_neg q3]) ?_ (Nat.lt_of_lt_of_le hBw hb4.size) hbl hF4 (by rw [hp2]; go_num)
        have := HL.out
        simp at this
        omega
end Go.Proofs.YtdhmloejgoacaaaGreatDoor
namespace Go.Proofs.YtdhmloejgoacaaaGreatDoor
open Go.RowKit Go.Bl Go.Lq

theorem Ar.below {T : Nat} {w w' : World} {b B : Nat} {s : ByteArray} {l : Bs} {d : Bool} (h : Ar T w b s l d) (k : Below B w w') (hb : b < B) : Ar T w' b s l d :=
  ⟨by rw [k.block b hb]; exact h.cells, h.suf, h.short⟩
def QPost (b : Nat) (s : ByteArray) (l : Bs) (d : Bool) (w : World) (e : Ending) (w' : World) : Prop :=
  ∃ v r bd, e = .returned (.string ⟨v.toArray⟩) ∧ Got (if d then .bad l else quotedM l) v r bd ∧ Ar 291 w' b s r bd ∧ Fr [b] w w'
def QuoRelA (b B : Nat) (s : ByteArray) (pr : PR Bs) (w wr : World) : Prop :=
  ∃ acc r, Ar 291 wr b s r false ∧ Lib.IsBuilder 142 5 B B (Lib.byteCells acc) wr ∧ quotedBody acc r = pr ∧ acc.length + r.length ≤ 65536 ∧ B < wr.heap.size ∧ Fr [b] w wr
theorem QuoRelA.next {b B : Nat} {s : ByteArray} {pr : PR Bs} {w w0 wr : World} {acc : Bs} {d : UInt8} {x : Value} {r r0 r1 : Bs} (hR0 : Ar 291 w0 b s r0 false) (hR : Ar 291 wr b s r1 false) (hs1 : r <:+ r1) (hs0 : r.length < r0.length)
    (hBd : Lib.BuilderAt 142 5 B B (.pointer (some ⟨B, 0, none⟩)) (Lib.byteCells acc ++ [x]) wr) (hx : x = .int .u8 (d.toNat : Int)) (hq : quotedBody (acc ++ [d]) r = pr) (hlen : acc.length + 1 + r.length ≤ 65536) (hB : B < wr.heap.size) (hb : b < B) (hF : Fr [b] w wr) {i : Int} (hi : i = ((s.size - r.length : Nat) : Int)) :
    QuoRelA b B s pr w (wr.setCell ⟨b, 1, none⟩ (.int .i64 i)) ∧ s.size - posA (wr.setCell ⟨b, 1, none⟩ (.int .i64 i)) b < s.size - posA w0 b := by
  subst hx
  exact ⟨⟨acc ++ [d], r, hR.set hs1 hi, builder_set (.inr (by rw [Lib.byteCells_append]; exact hBd)) hb _, hq, by simp; omega, by have := (Fr.refl [b] wr).setCell1 1 (.int .i64 i) |>.size; omega, hF.setCell1 1 _⟩, posA_less hR0 (hR.set hs1 hi) hs0⟩
theorem QPost.ok {b : Nat} {s : ByteArray} {l v r : Bs} {w w' : World} {x : Value} (hF : Fr [b] w w') (hp : quotedM l = .ok v r) (hx : x = .string ⟨v.toArray⟩) (hR : Ar 291 w' b s r false) : QPost b s l false w (.returned x) w' :=
  ⟨v, r, false, by rw [hx], by rw [if_neg (by simp), hp]; exact ⟨rfl, rfl, rfl⟩, hR, hF⟩
theorem QPost.bad {b : Nat} {s : ByteArray} {l r : Bs} {w w' : World} (hF : Fr [b] w w') (hp : quotedM l = .bad r) (hR : Ar 291 w' b s r true) : QPost b s l false w (.returned (.string ⟨#[]⟩)) w' :=
  ⟨[], r, true, rfl, by rw [if_neg (by simp), hp]; exact ⟨rfl, rfl⟩, hR, hF⟩
set_option maxRecDepth 100000 in
set_option maxHeartbeats 4000000 in
theorem quotedA (b : Nat) (s : ByteArray) (l : Bs) (d : Bool) (w : World) (hR : Ar 291 w b s l d) :
    Calls Tryz.prog 221 #[.pointer (some ⟨b, 0, none⟩)] w (QPost b s l d w) := by
  have hbl : b < w.heap.size := lt_of_obj hR.cells
  go_enter Tryz.func221, Tryz.ntmps221
  go_wp2_with fail
  have hR1 : Ar 291 (w.alloc (.cells #[.pointer none, .slice none 0 0] 142)) b s l d := hR.fr ((Fr.refl [] w).alloc _) (by simp)
  refine (needA b s ⟨#[34]⟩ l d (by decide) _ hR1).mono ?_
  rintro e w2 ⟨rfl, hR2, hF2⟩
  have hF : Fr [b] w w2 := ((Fr.refl _ _).alloc _).trans hF2
  have hw2 : w.heap.size < w2.heap.size := by have := hF2.size; simp at this; omega
  have hB2 : Lib.IsBuilder 142 5 w.heap.size w.heap.size (Lib.byteCells []) w2 :=
    Or.inl ⟨Nat.le_refl _, .slice none 0 0, hF2.obj (heap_alloc w _) (by simp; omega), World.ownsRow_nil _ _ _ _, by simp [Value.ownBlock]⟩
  obtain ⟨B, hB⟩ : ∃ B, w.heap.size = B := ⟨_, rfl⟩
  obtain ⟨v, hv⟩ : ∃ v, takeL (ByteArray.data ⟨#[34]⟩).toList l = v := ⟨_, rfl⟩
  rw [hv] at hR2
  by_cases hd : d = true ∨ v = none
  case pos =>
    have hR3 : Ar 291 w2 b s l true := by
      rcases hd with rfl | rfl
      · simpa using hR2
      · cases d <;> simpa using hR2
    have hq : (if d then .bad l else quotedM l : PR Bs) = .bad l := by
      cases d
      · rcases hd with h | rfl
        · cases h
        · rw [if_neg (by simp)]
          cases l with
          | nil => rfl
          | cons c cs =>
            have : ¬ c = 34 := by
              rintro rfl
              simp [takeL] at hv
            simp [quotedM, this]
      · rfl
    clear hR2 hv
    go_wp2_with fail
    go_loopw [] (fun wr => Ar 291 wr b s l true ∧ Fr [b] w wr) (fun wr => 0)
    case atStart => exact ⟨hR3, hF⟩
    case round =>
      obtain ⟨hR4, hF4⟩ := hrel
      have k0 := cell_of hR4.cells 0
      have k1 := cell_of hR4.cells 1
      have k2 := cell_of hR4.cells 2
      have z2 := frozen_of hR4.cells 2
      simp only [List.getElem?_toArray, List.getElem?_cons_zero, List.getElem?_cons_succ] at k0 k1 k2
      go_wp2_with fail
      go_quiet (fail)
      go_wp2_with fail
      go_ret
      exact ⟨[], l, true, rfl, by rw [hq]; exact ⟨rfl, rfl⟩, (hR4.drewN _).flag true, (hF4.drewN _).setCell1 2 _⟩
  case neg =>
    have hd0 : d = false := by cases d <;> simp_all
    subst hd0
    obtain ⟨l1, rfl⟩ : ∃ l1, v = some l1 := by
      cases v with
      | none => exact absurd (.inr rfl) hd
      | some l1 => exact ⟨l1, rfl⟩
    have hR3 : Ar 291 w2 b s l1 false := by simpa using hR2
    have hq2 : quotedM l = quotedBody [] l1 := by
      cases l with
      | nil => simp [takeL] at hv
      | cons c cs =>
        by_cases hc : c = 34
        · subst hc
          simp [takeL] at hv
          simp [quotedM, hv]
        · simp [takeL, List.isPrefixOf, Ne.symm hc] at hv
    have hl1 : l1.length ≤ 65536 := Nat.le_trans hR3.left.1 hR3.short
    clear hd hR2 hv
    rw [hB] at hB2 hw2 hbl ⊢
    have H0 : QuoRelA b B s (quotedBody [] l1) w w2 := ⟨[], l1, hR3, hB2, rfl, by simpa using hl1, hw2, hF⟩
    go_wp2_with fail
    go_loopw [] (fun wr => QuoRelA b B s (quotedBody [] l1) w wr) (fun wr => s.size - posA wr b)
    case atStart => exact H0
    case round =>
      clear H0 hR3 hl1 hw2 hB2
      obtain ⟨acc, r, hR3, hBd, hq, hlen, hBw, hF3⟩ := hrel
      have k0 := cell_of hR3.cells 0
      have k1 := cell_of hR3.cells 1
      have k2 := cell_of hR3.cells 2
      have z1 := frozen_of hR3.cells 1
      have z2 := frozen_of hR3.cells 2
      simp only [List.getElem?_toArray, List.getElem?_cons_zero, List.getElem?_cons_succ] at k0 k1 k2
      obtain ⟨p, hp⟩ : ∃ p, s.size - r.length = p := ⟨_, rfl⟩
      rw [hp] at k1
      have HB := Lib.hid hBd
      have HQ := Lib.hid hq
      have HL := Lib.hid hlen
      clear hBd hq hlen
      rcases r with _ | ⟨c, r⟩
      · obtain rfl : s.size = p := by simpa using hp
        have g0 : decide ((s.size : Int) < (s.size : Int)) = false := by simp
        go_wp2_with fail
        go_quiet (fail)
        go_wp2_with fail
        go_ret
        exact QPost.bad ((hF3.drewN _).setCell1 2 _) (r := []) (by rw [hq2, ← HQ.out]; rfl) ((hR3.drewN _).flag true)
      · obtain ⟨p', hp1, hp2, hp3, hp4⟩ := hR3.at
        obtain rfl : p' = p := by omega
        have g0 : decide ((p' : Int) < (s.size : Int)) = true := by simp; omega
        have g1 : (0 : Int) ≤ (p' : Int) ∧ (p' : Int) < (s.size : Int) := by omega
        have hsh := hR3.short
        have hpc : ∀ W, Ar 291 W b s (c :: r) false → Calls Tryz.prog 224 #[.pointer (some ⟨b, 0, none⟩)] W fun e w' => e = .returned (.int .u8 (c.toNat : Int)) ∧ ∃ n, w' = W.drewN n := fun W h => peekA b s (c :: r) false W h
        go_wp2_with fail
        go_quiet (fail)
        go_wp2_with fail
        refine (hpc _ (hR3.drewN _)).mono ?_
        rintro e w5 ⟨rfl, n0, rfl⟩
        by_cases q1 : c = 34
        · have q1a : ((c.toNat : Int) == 34) = true := by subst q1; rfl
          go_wp2_with fail
          refine (Tryz.Builder_String_any B B acc _ (builder_set (builder_drewN HB.out _) (show (⟨b, 1, none⟩ : Addr).block < B from hbl) _) (by simp; omega)).mono ?_
          rintro e w4 ⟨rfl, hb4⟩
          go_wp2_with fail
          go_ret
          have hR4 := (((hR3.drewN _).set (List.suffix_cons c r) (by rw [hp2]; go_num)).below hb4 hbl)
          exact QPost.ok (fr_below ((hF3.drewN _).setCell1 1 _) hb4 (by rw [hB]; exact Nat.le_refl _)) (by rw [hq2, ← HQ.out, qb_cons, if_pos q1]) rfl hR4
        have q1a : ((c.toNat : Int) == 34) = false := u8_ne (n := 34) (by omega) q1
        by_cases q2 : c = 10
        · have q2a : ((c.toNat : Int) == 10) = true := by subst q2; rfl
          go_wp2_with fail
          go_ret
          exact QPost.bad ((hF3.drewN _).setCell1 2 _) (r := c :: r) (by rw [hq2, ← HQ.out, qb_cons, if_neg q1, if_pos q2]) ((hR3.drewN _).flag true)
        have q2a : ((c.toNat : Int) == 10) = false := u8_ne (n := 10) (by omega) q2
        by_cases q3 : c = 92
        · have q3a : ((c.toNat : Int) == 92) = true := by subst q3; rfl
          have hR5 : ∀ n, Ar 291 ((wr.drewN n).setCell ⟨b, 1, none⟩ (.int .i64 ((p' : Int) + 1))) b s r false := fun n => (hR3.drewN n).set (List.suffix_cons c r) (by rw [hp2]; go_num)
          go_wp2_with fail
          obtain ⟨n5, hn5⟩ : ∃ n5 : Nat, n5 = p' + 1 := ⟨_, rfl⟩
          rw [show ((p' : Int) + 1) = (n5 : Int) by omega] at hR5 ⊢
          have hn5a : p' < n5 := by omega
          rw [← hn5] at hp2
          have HN := Lib.hid hn5
          clear hn5
          cases r with
          | nil =>
            obtain rfl : s.size = n5 := by simpa using hp2
            have g5 : decide ((s.size : Int) < (s.size : Int)) = false := by simp
            have hpk : ∀ W, Ar 291 W b s [] false → Calls Tryz.prog 224 #[.pointer (some ⟨b, 0, none⟩)] W fun e w' => e = .returned (.int .u8 0) ∧ ∃ n, w' = W.drewN n := fun W h => peekA b s [] false W h
            refine (hpk _ (hR5 _)).mono ?_
            rintro e w6 ⟨rfl, n6', rfl⟩
            go_wp2_with fail
            go_quiet (fail)
            go_wp2_with fail
            go_quiet (fail)
            go_wp2_with fail
            go_ret
            exact QPost.bad (Fr.setCell1 (Fr.drewN ((hF3.drewN _).setCell1 1 _) _) 2 _) (r := []) (by rw [hq2, ← HQ.out, qb_cons, if_neg q1, if_neg q2, if_pos q3]) (((hR5 _).drewN _).flag true)
          | cons d ds =>
            obtain ⟨n6, hm1, hm2, hm3, hm4⟩ := (hR5 0).at
            obtain rfl : n6 = n5 := by omega
            have g5 : (n6 : Int) < (s.size : Int) := by omega
            have g6 : (0 : Int) ≤ (n6 : Int) ∧ (n6 : Int) < (s.size : Int) := by omega
            by_cases e34 : d = 34
            · subst e34
              have hpk : ∀ W, Ar 291 W b s (34 :: ds) false → Calls Tryz.prog 224 #[.pointer (some ⟨b, 0, none⟩)] W fun e w' => e = .returned (.int .u8 34) ∧ ∃ n, w' = W.drewN n := fun W h => peekA b s (34 :: ds) false W h
              refine (hpk _ ((hR5 _))).mono ?_
              rintro e w6 ⟨rfl, n6', rfl⟩
              go_wp2_with fail
              go_quiet (fail)
              go_wp2_with fail
              go_quiet (fail)
              go_wp2_with fail
              refine (writeByte_any B B (Lib.byteCells acc) 34 _ (builder_drewN (builder_set (builder_drewN HB.out _) (show (⟨b, 1, none⟩ : Addr).block < B from hbl) _) _) (by rw [Lib.byteCells_length]; have := HL.out; omega) (by simp; omega)).mono ?_
              rintro e w4 ⟨rfl, hB4, hb4⟩
              have hR6 := ((hR5 _).drewN _).below hb4 hbl
              have j1 := cell_of hR6.cells 1
              have y1 := frozen_of hR6.cells 1
              simp only [List.getElem?_toArray, List.getElem?_cons_zero, List.getElem?_cons_succ] at j1
              rw [hm1] at j1
              have hF4 := fr_below (((hF3.drewN _).setCell1 1 (.int .i64 (n6 : Int))).drewN _) hb4 (by rw [hB]; exact Nat.le_refl _)
              have hz4 := hb4.size
              go_wp2_with fail
              refine QuoRelA.next (d := 34) (r := ds) hR3 hR6 (List.suffix_cons 34 ds) (by simp; omega) hB4 rfl (by rw [← HQ.out, qb_cons, if_neg q1, if_neg q2, if_pos q3]; simp) ?_ (Nat.lt_of_lt_of_le hBw (by have := hb4.size; simpa using this)) hbl hF4 (by rw [hm2]; go_num)
              have := HL.out
              simp at this
              omega
            by_cases e92 : d = 92
            · subst e92
              have hpk : ∀ W, Ar 291 W b s (92 :: ds) false → Calls Tryz.prog 224 #[.pointer (some ⟨b, 0, none⟩)] W fun e w' => e = .returned (.int .u8 92) ∧ ∃ n, w' = W.drewN n := fun W h => peekA b s (92 :: ds) false W h
              refine (hpk _ ((hR5 _))).mono ?_
              rintro e w6 ⟨rfl, n6', rfl⟩
              go_wp2_with fail
              go_quiet (fail)
              go_wp2_with fail
              go_quiet (fail)
              go_wp2_with fail
              refine (writeByte_any B B (Lib.byteCells acc) 92 _ (builder_drewN (builder_set (builder_drewN HB.out _) (show (⟨b, 1, none⟩ : Addr).block < B from hbl) _) _) (by rw [Lib.byteCells_length]; have := HL.out; omega) (by simp; omega)).mono ?_
              rintro e w4 ⟨rfl, hB4, hb4⟩
              have hR6 := ((hR5 _).drewN _).below hb4 hbl
              have j1 := cell_of hR6.cells 1
              have y1 := frozen_of hR6.cells 1
              simp only [List.getElem?_toArray, List.getElem?_cons_zero, List.getElem?_cons_succ] at j1
              rw [hm1] at j1
              have hF4 := fr_below (((hF3.drewN _).setCell1 1 (.int .i64 (n6 : Int))).drewN _) hb4 (by rw [hB]; exact Nat.le_refl _)
              have hz4 := hb4.size
              go_wp2_with fail
              refine QuoRelA.next (d := 92) (r := ds) hR3 hR6 (List.suffix_cons 92 ds) (by simp; omega) hB4 rfl (by rw [← HQ.out, qb_cons, if_neg q1, if_neg q2, if_pos q3]; simp) ?_ (Nat.lt_of_lt_of_le hBw (by have := hb4.size; simpa using this)) hbl hF4 (by rw [hm2]; go_num)
              have := HL.out
              simp at this
              omega
            by_cases e110 : d = 110
            · subst e110
              have hpk : ∀ W, Ar 291 W b s (110 :: ds) false → Calls Tryz.prog 224 #[.pointer (some ⟨b, 0, none⟩)] W fun e w' => e = .returned (.int .u8 110) ∧ ∃ n, w' = W.drewN n := fun W h => peekA b s (110 :: ds) false W h
              refine (hpk _ ((hR5 _))).mono ?_
              rintro e w6 ⟨rfl, n6', rfl⟩
              go_wp2_with fail
              go_quiet (fail)
              go_wp2_with fail
              refine (writeByte_any B B (Lib.byteCells acc) 10 _ (builder_drewN (builder_set (builder_drewN HB.out _) (show (⟨b, 1, none⟩ : Addr).block < B from hbl) _) _) (by rw [Lib.byteCells_length]; have := HL.out; omega) (by simp; omega)).mono ?_
              rintro e w4 ⟨rfl, hB4, hb4⟩
              have hR6 := ((hR5 _).drewN _).below hb4 hbl
              have j1 := cell_of hR6.cells 1
              have y1 := frozen_of hR6.cells 1
              simp only [List.getElem?_toArray, List.getElem?_cons_zero, List.getElem?_cons_succ] at j1
              rw [hm1] at j1
              have hF4 := fr_below (((hF3.drewN _).setCell1 1 (.int .i64 (n6 : Int))).drewN _) hb4 (by rw [hB]; exact Nat.le_refl _)
              have hz4 := hb4.size
              go_wp2_with fail
              refine QuoRelA.next (d := 10) (r := ds) hR3 hR6 (List.suffix_cons 110 ds) (by simp; omega) hB4 rfl (by rw [← HQ.out, qb_cons, if_neg q1, if_neg q2, if_pos q3]; simp) ?_ (Nat.lt_of_lt_of_le hBw (by have := hb4.size; simpa using this)) hbl hF4 (by rw [hm2]; go_num)
              have := HL.out
              simp at this
              omega
            have e1 : ((d.toNat : Int) == 34) = false := u8_ne (n := 34) (by omega) e34
            have e2 : ((d.toNat : Int) == 92) = false := u8_ne (n := 92) (by omega) e92
            have e1' : ((d.toNat : Int) != 34) = true := by simp only [bne, e1]; rfl
            have e2' : ((d.toNat : Int) != 92) = true := by simp only [bne, e2]; rfl
            have e3 : ((d.toNat : Int) == 110) = false := u8_ne (n := 110) (by omega) e110
            have hpk : ∀ W, Ar 291 W b s (d :: ds) false → Calls Tryz.prog 224 #[.pointer (some ⟨b, 0, none⟩)] W fun e w' => e = .returned (.int .u8 (d.toNat : Int)) ∧ ∃ n, w' = W.drewN n := fun W h => peekA b s (d :: ds) false W h
            refine (hpk _ (hR5 _)).mono ?_
            rintro e w6 ⟨rfl, n6', rfl⟩
            go_wp2_with fail
            go_quiet (fail)
            go_wp2_with fail
            go_quiet (fail)
            go_wp2_with fail
            go_ret
            exact QPost.bad (Fr.setCell1 (Fr.drewN ((hF3.drewN _).setCell1 1 _) _) 2 _) (r := d :: ds) (by rw [hq2, ← HQ.out, qb_cons, if_neg q1, if_neg q2, if_pos q3]; simp [e34, e92, e110]) (((hR5 _).drewN _).flag true)
        have q3a : ((c.toNat : Int) == 92) = false := u8_ne (n := 92) (by omega) q3
        go_wp2_with fail
        refine (writeByte_any B B (Lib.byteCells acc) (c.toNat : Int) _ (builder_drewN HB.out _) (by rw [Lib.byteCells_length]; have := HL.out; simp at this; omega) (by simp; omega)).mono ?_
        rintro e w4 ⟨rfl, hB4, hb4⟩
        have hR6 := (hR3.drewN _).below hb4 hbl
        have j1 := cell_of hR6.cells 1
        have y1 := frozen_of hR6.cells 1
        simp only [List.getElem?_toArray, List.getElem?_cons_zero, List.getElem?_cons_succ] at j1
        rw [hp1] at j1
        have hF4 := fr_below (hF3.drewN _) hb4 (by rw [hB]; exact Nat.le_refl _)
        have hz4 := hb4.size
        go_wp2_with fail
        refine QuoRelA.next (d := c) (r := r) hR3 hR6 (List.suffix_cons c r) (by simp) hB4 rfl (by rw [← HQ.out, qb_cons, if_neg q1, if_neg q2, if_neg q3]) ?_ (Nat.lt_of_lt_of_le hBw (by have := hb4.size; simpa using this)) hbl hF4 (by rw [hp2]; go_num)
        have := HL.out
        simp at this
        omega
end Go.Proofs.YtdhmloejgoacaaaGreatDoor
namespace Go.Proofs.YtdhmloejgoacaaaGreatDoor
open Go.RowKit Go.Bl Go.Lq

theorem keyM_bad {m r : Bs} (h : keyM m = .bad r) : r = m := by
  cases m with
  | nil => cases h; rfl
  | cons c cs =>
    simp only [keyM] at h
    split at h
    · cases h
    · cases h; rfl
theorem quotedM_of {l m : Bs} (h : skipL l = m) : quotedL l = quotedM m := by subst h; rfl
/-- What the steps of one matcher leave. -/
def Rounded (r : Bs) (m : Mt) (r5 : Bs) (bd : Bool) : Prop :=
  bd = false ∧ (∃ l1 l2 l3, keyL r = .ok m.key l1 ∧ opL l1 = .ok m.op l2 ∧ m.op ≠ 0 ∧ quotedL l2 = .ok m.val l3 ∧ r5 = skipL l3) ∨ bd = true ∧ ∀ f acc, matchLoop (f + 1) acc r = .bad r5
theorem round_plain {r r1 r2 r3 r4 r5 k v : Bs} {n : Int} {bd1 bd2 bd3 : Bool} (h1 : Got (keyM (skipL r)) k r1 bd1) (h2 : Got (if bd1 then .bad (skipL r1) else opB (skipL r1)) n r2 bd2)
    (h3 : r3 = if bd2 then r2 else skipL r2) (h4 : Got (if bd2 then .bad r3 else quotedM r3) v r4 bd3) (h5 : r5 = if bd3 then r4 else skipL r4) : Rounded r ⟨n, k, v⟩ r5 bd3 := by
  have hk := keyL_of (rfl : skipL r = skipL r)
  obtain ⟨pk, hpk⟩ : ∃ pk, keyM (skipL r) = pk := ⟨_, rfl⟩
  rw [hpk] at h1 hk
  cases pk with
  | bad m =>
    obtain ⟨rfl, rfl⟩ := h1
    obtain rfl := keyM_bad hpk
    rw [if_pos rfl] at h2
    obtain ⟨rfl, rfl⟩ := h2
    rw [if_pos rfl] at h3 h4
    obtain ⟨rfl, rfl⟩ := h4
    rw [if_pos rfl] at h5
    subst h5 h3
    refine .inr ⟨rfl, fun f acc => ?_⟩
    unfold matchLoop
    rw [hk]
    simp only
    rw [skip_skip]
  | ok k' l1 =>
    obtain ⟨rfl, rfl, rfl⟩ := h1
    rw [if_neg (by simp)] at h2
    have ho := opL_of (rfl : skipL r1 = skipL r1)
    unfold opB at h2
    obtain ⟨po, hpo⟩ : ∃ po, opM (skipL r1) = po := ⟨_, rfl⟩
    rw [hpo] at h2 ho
    cases po with
    | bad x =>
      obtain ⟨rfl, rfl⟩ := h2
      rw [if_pos rfl] at h3 h4
      obtain ⟨rfl, rfl⟩ := h4
      rw [if_pos rfl] at h5
      subst h5 h3
      refine .inr ⟨rfl, fun f acc => ?_⟩
      unfold matchLoop
      rw [hk]
      simp only
      rw [ho]
    | ok n' l2 =>
      simp only at h2
      by_cases hn : n' = 0
      · subst hn
        rw [if_pos rfl] at h2
        obtain ⟨rfl, rfl⟩ := h2
        rw [if_pos rfl] at h3 h4
        obtain ⟨rfl, rfl⟩ := h4
        rw [if_pos rfl] at h5
        subst h5 h3
        refine .inr ⟨rfl, fun f acc => ?_⟩
        unfold matchLoop
        rw [hk]
        simp only
        rw [ho]
        simp
      · rw [if_neg hn] at h2
        obtain ⟨rfl, rfl, rfl⟩ := h2
        rw [if_neg (by simp)] at h3 h4
        have hq := quotedM_of h3.symm
        obtain ⟨pq, hpq⟩ : ∃ pq, quotedM r3 = pq := ⟨_, rfl⟩
        rw [hpq] at h4 hq
        cases pq with
        | bad x =>
          obtain ⟨rfl, rfl⟩ := h4
          rw [if_pos rfl] at h5
          subst h5
          refine .inr ⟨rfl, fun f acc => ?_⟩
          unfold matchLoop
          rw [hk]
          simp only
          rw [ho]
          simp only
          rw [if_neg hn, hq]
        | ok v' l3 =>
          obtain ⟨rfl, rfl, rfl⟩ := h4
          rw [if_neg (by simp)] at h5
          exact .inl ⟨rfl, _, _, _, hk, ho, hn, hq, h5⟩
def restOf {α : Type} : PR α → Bs
  | .ok _ r => r
  | .bad r => r
theorem Got.rest {α : Type} {pr : PR α} {v : α} {r : Bs} {bd : Bool} (h : Got pr v r bd) : r = restOf pr := by
  cases pr with
  | ok a x => exact h.2.1
  | bad x => exact h.1
theorem dropWhile_le (p : UInt8 → Bool) : ∀ l : Bs, (l.dropWhile p).length ≤ l.length
  | [] => by simp
  | c :: cs => by
    rw [List.dropWhile_cons]
    have := dropWhile_le p cs
    split
    · simp; omega
    · exact Nat.le_refl _
theorem keyM_le (m : Bs) : (restOf (keyM m)).length ≤ m.length := by
  cases m with
  | nil => exact Nat.le_refl _
  | cons c cs =>
    have := dropWhile_le isTail cs
    simp only [keyM]
    by_cases h : isHead c = true
    · rw [if_pos h]; simp [restOf]; omega
    · rw [if_neg h]; exact Nat.le_refl _
theorem opB_le (m : Bs) : (restOf (opB m)).length ≤ m.length := by
  have h0 : ∀ t r, takeL t m = some r → r.length ≤ m.length := fun t r h => by have := takeL_len h; omega
  unfold opB opM
  cases h1 : takeL [61, 126] m with
  | some r => exact h0 _ _ h1
  | none =>
  cases h2 : takeL [33, 126] m with
  | some r => exact h0 _ _ h2
  | none =>
  cases h3 : takeL [33, 61] m with
  | some r => exact h0 _ _ h3
  | none =>
  cases h4 : takeL [61] m with
  | some r => exact h0 _ _ h4
  | none =>
  cases h5 : takeL [33] m with
  | some r => exact h0 _ _ h5
  | none => exact Nat.le_refl _
theorem qb_le : ∀ (n : Nat) (acc l : Bs), l.length ≤ n → (restOf (quotedBody acc l)).length ≤ l.length := by
  intro n
  induction n with
  | zero =>
    intro acc l hl
    have : l = [] := List.eq_nil_of_length_eq_zero (by omega)
    subst this
    simp [quotedBody, restOf]
  | succ n ih =>
    intro acc l hl
    cases l with
    | nil => simp [quotedBody, restOf]
    | cons c cs =>
      have hcs : cs.length ≤ n := by simp at hl; omega
      rw [qb_cons]
      by_cases q1 : c = 34
      · rw [if_pos q1]; simp [restOf]
      rw [if_neg q1]
      by_cases q2 : c = 10
      · rw [if_pos q2]; exact Nat.le_refl _
      rw [if_neg q2]
      by_cases q3 : c = 92
      · rw [if_pos q3]
        cases cs with
        | nil => simp [restOf]
        | cons d ds =>
          have hds : ds.length ≤ n := by simp at hcs; omega
          have tr : ∀ a, (restOf (quotedBody a ds)).length ≤ (c :: d :: ds).length := fun a => by
            have := ih a ds hds
            simp
            omega
          simp only
          by_cases e1 : d = 34
          · rw [if_pos e1]; exact tr _
          rw [if_neg e1]
          by_cases e2 : d = 92
          · rw [if_pos e2]; exact tr _
          rw [if_neg e2]
          by_cases e3 : d = 110
          · rw [if_pos e3]; exact tr _
          · rw [if_neg e3]; simp [restOf]
      · rw [if_neg q3]
        have := ih (acc ++ [c]) cs hcs
        simp
        omega
theorem quotedM_le (m : Bs) : (restOf (quotedM m)).length ≤ m.length := by
  cases m with
  | nil => exact Nat.le_refl _
  | cons c cs =>
    simp only [quotedM]
    by_cases h : c = 34
    · rw [if_pos h]
      have := qb_le cs.length [] cs (Nat.le_refl _)
      simp
      omega
    · rw [if_neg h]; exact Nat.le_refl _
theorem round_le {r r1 r2 r3 r4 r5 k v : Bs} {n : Int} {bd1 bd2 bd3 : Bool} (h1 : Got (keyM (skipL r)) k r1 bd1) (h2 : Got (if bd1 then .bad (skipL r1) else opB (skipL r1)) n r2 bd2)
    (h3 : r3 = if bd2 then r2 else skipL r2) (h4 : Got (if bd2 then .bad r3 else quotedM r3) v r4 bd3) (h5 : r5 = if bd3 then r4 else skipL r4) : r5.length ≤ r.length := by
  have a1 := keyM_le (skipL r)
  rw [← h1.rest] at a1
  have a0 := skipL_le r
  have a2 := skipL_le r1
  have a3 : r2.length ≤ (skipL r1).length := by
    rw [h2.rest]
    cases bd1
    · exact opB_le _
    · exact Nat.le_refl _
  have a4 : r3.length ≤ r2.length := by
    subst h3
    split
    · exact Nat.le_refl _
    · exact skipL_le _
  have a5 : r4.length ≤ r3.length := by
    rw [h4.rest]
    cases bd2
    · exact quotedM_le _
    · exact Nat.le_refl _
  have a6 : r5.length ≤ r4.length := by
    subst h5
    split
    · exact Nat.le_refl _
    · exact skipL_le _
  omega
theorem Rounded.loop {r r5 : Bs} {m : Mt} (h : Rounded r m r5 false) (f : Nat) (acc : List Mt) : matchLoop (f + 1) acc r = match takeL [125] r5 with
    | some x => .ok (acc ++ [m]) x
    | none => match takeL [44] r5 with
      | some x => matchLoop f (acc ++ [m]) x
      | none => .bad r5 := by
  rcases h with ⟨_, l1, l2, l3, h1, h2, h3, h4, rfl⟩ | ⟨h, _⟩
  · conv => lhs; unfold matchLoop
    rw [h1]
    simp only
    rw [h2]
    simp only
    rw [if_neg h3, h4]
    rfl
  · cases h
theorem Rounded.less {r r5 : Bs} {m : Mt} (h : Rounded r m r5 false) : r5.length < r.length := by
  rcases h with ⟨_, l1, l2, l3, h1, h2, h3, h4, rfl⟩ | ⟨h, _⟩
  · have a := (keyL_len h1).1
    have b := opL_len h2
    have c := quotedL_len h4
    have d := skipL_le l3
    omega
  · cases h
end Go.Proofs.YtdhmloejgoacaaaGreatDoor
namespace Go.Proofs.YtdhmloejgoacaaaGreatDoor
open Go.RowKit Go.Bl Go.Lq

theorem skipL_suf (l : Bs) : skipL l <:+ l := List.dropWhile_suffix _
theorem takeL_suf {t l r : Bs} (h : takeL t l = some r) : r <:+ l := by
  unfold takeL at h
  split at h
  · cases h
    exact List.drop_suffix _ _
  · cases h
theorem keyM_suf (m : Bs) : restOf (keyM m) <:+ m := by
  cases m with
  | nil => exact List.suffix_refl _
  | cons c cs =>
    simp only [keyM]
    by_cases h : isHead c = true
    · rw [if_pos h]
      exact (List.dropWhile_suffix _).trans (List.suffix_cons c cs)
    · rw [if_neg h]
      exact List.suffix_refl _
theorem keyL_suf (l : Bs) : restOf (keyL l) <:+ l := by
  rw [keyL_of rfl]
  exact (keyM_suf _).trans (skipL_suf l)
theorem opM_suf (m : Bs) : restOf (opM m) <:+ m := by
  unfold opM
  cases h1 : takeL [61, 126] m with
  | some r => exact takeL_suf h1
  | none =>
  cases h2 : takeL [33, 126] m with
  | some r => exact takeL_suf h2
  | none =>
  cases h3 : takeL [33, 61] m with
  | some r => exact takeL_suf h3
  | none =>
  cases h4 : takeL [61] m with
  | some r => exact takeL_suf h4
  | none =>
  cases h5 : takeL [33] m with
  | some r => exact takeL_suf h5
  | none => exact List.suffix_refl _
theorem opL_suf (l : Bs) : restOf (opL l) <:+ l := by
  rw [opL_of rfl]
  exact (opM_suf _).trans (skipL_suf l)
theorem qb_suf : ∀ (n : Nat) (acc l : Bs), l.length ≤ n → restOf (quotedBody acc l) <:+ l := by
  intro n
  induction n with
  | zero =>
    intro acc l hl
    have : l = [] := List.eq_nil_of_length_eq_zero (by omega)
    subst this
    exact List.suffix_refl _
  | succ n ih =>
    intro acc l hl
    cases l with
    | nil => exact List.suffix_refl _
    | cons c cs =>
      have hcs : cs.length ≤ n := by simp at hl; omega
      rw [qb_cons]
      by_cases q1 : c = 34
      · rw [if_pos q1]; exact List.suffix_cons c cs
      rw [if_neg q1]
      by_cases q2 : c = 10
      · rw [if_pos q2]; exact List.suffix_refl _
      rw [if_neg q2]
      by_cases q3 : c = 92
      · rw [if_pos q3]
        cases cs with
        | nil => exact List.suffix_cons c []
        | cons d ds =>
          have hds : ds.length ≤ n := by simp at hcs; omega
          have tr : ∀ a, restOf (quotedBody a ds) <:+ c :: d :: ds := fun a => ((ih a ds hds).trans (List.suffix_cons d ds)).trans (List.suffix_cons c _)
          simp only
          by_cases e1 : d = 34
          · rw [if_pos e1]; exact tr _
          rw [if_neg e1]
          by_cases e2 : d = 92
          · rw [if_pos e2]; exact tr _
          rw [if_neg e2]
          by_cases e3 : d = 110
          · rw [if_pos e3]; exact tr _
          · rw [if_neg e3]; exact List.suffix_cons c _
      · rw [if_neg q3]
        exact (ih _ cs hcs).trans (List.suffix_cons c cs)
theorem quotedM_suf (m : Bs) : restOf (quotedM m) <:+ m := by
  cases m with
  | nil => exact List.suffix_refl _
  | cons c cs =>
    simp only [quotedM]
    by_cases h : c = 34
    · rw [if_pos h]
      exact (qb_suf _ [] cs (Nat.le_refl _)).trans (List.suffix_cons c cs)
    · rw [if_neg h]; exact List.suffix_refl _
theorem quotedL_suf (l : Bs) : restOf (quotedL l) <:+ l := by
  rw [quotedM_of rfl]
  exact (quotedM_suf _).trans (skipL_suf l)
/-- What stands behind an operator. -/
def tailM (f : Nat) (acc : List Mt) (k : Bs) (n : Int) (l2 : Bs) : PR (List Mt) := match quotedL l2 with
  | .bad r => .bad r
  | .ok v l3 => match takeL [125] (skipL l3) with
    | some r => .ok (acc ++ [⟨n, k, v⟩]) r
    | none => match takeL [44] (skipL l3) with
      | some r => matchLoop f (acc ++ [⟨n, k, v⟩]) r
      | none => .bad (skipL l3)
theorem loop_tail {f : Nat} {acc : List Mt} {l k l1 l2 : Bs} {n : Int} (h1 : keyL l = .ok k l1) (h2 : opL l1 = .ok n l2) (hn : n ≠ 0) : matchLoop (f + 1) acc l = tailM f acc k n l2 := by
  conv => lhs; unfold matchLoop
  rw [h1]
  simp only
  rw [h2]
  simp only
  rw [if_neg hn]
  rfl
theorem tailM_suf {f : Nat} (ih : ∀ acc l, restOf (matchLoop f acc l) <:+ l) (acc : List Mt) (k : Bs) (n : Int) (l2 : Bs) (h0 : f = 0 → True) : restOf (tailM f acc k n l2) <:+ l2 := by
  unfold tailM
  have hq := quotedL_suf l2
  cases h : quotedL l2 with
  | bad r => rw [h] at hq; exact hq
  | ok v l3 =>
    rw [h] at hq
    have h3 : skipL l3 <:+ l2 := (skipL_suf l3).trans hq
    simp only
    cases h4 : takeL [125] (skipL l3) with
    | some r => exact (takeL_suf h4).trans h3
    | none =>
      simp only
      cases h5 : takeL [44] (skipL l3) with
      | some r => exact (ih _ r).trans ((takeL_suf h5).trans h3)
      | none => exact h3
theorem matchLoop_suf : ∀ (f : Nat) (acc : List Mt) (l : Bs), restOf (matchLoop f acc l) <:+ l
  | 0, acc, l => by
    unfold matchLoop
    exact List.nil_suffix
  | f + 1, acc, l => by
    have hk := keyL_suf l
    cases h1 : keyL l with
    | bad r =>
      rw [h1] at hk
      unfold matchLoop
      rw [h1]
      exact hk
    | ok k l1 =>
      rw [h1] at hk
      have ho := opL_suf l1
      cases h2 : opL l1 with
      | bad r =>
        rw [h2] at ho
        unfold matchLoop
        rw [h1]
        simp only
        rw [h2]
        exact ho.trans hk
      | ok n l2 =>
        rw [h2] at ho
        by_cases hn : n = 0
        · unfold matchLoop
          rw [h1]
          simp only
          rw [h2]
          simp only
          rw [if_pos hn]
          exact List.IsSuffix.trans ho hk
        · rw [loop_tail h1 h2 hn]
          exact (tailM_suf (matchLoop_suf f) acc k n l2 (fun _ => trivial)).trans (List.IsSuffix.trans ho hk)
/-- Behind '{a=' the place lies in what follows. -/
theorem matchL_a (m : Bs) : restOf (matchL (123 :: 97 :: 61 :: m)) <:+ m := by
  have h0 : matchL (123 :: 97 :: 61 :: m) = matchLoop ((123 :: 97 :: 61 :: m).length + 1) [] (97 :: 61 :: m) := rfl
  rw [h0]
  have h1 : keyL (97 :: 61 :: m) = .ok [97] (61 :: m) := rfl
  have h2 : ∃ n l2, opL (61 :: m) = .ok n l2 ∧ n ≠ 0 ∧ l2 <:+ m := by
    cases m with
    | nil => exact ⟨1, [], rfl, by decide, List.suffix_refl _⟩
    | cons c cs =>
      by_cases hc : c = 126
      · subst hc
        exact ⟨3, cs, rfl, by decide, List.suffix_cons _ _⟩
      · refine ⟨1, c :: cs, ?_, by decide, List.suffix_refl _⟩
        rw [opL_of rfl, show skipL (61 :: c :: cs) = 61 :: c :: cs from rfl]
        unfold opM takeL
        simp [List.isPrefixOf, Ne.symm hc]
  obtain ⟨n, l2, h2, hn, hs⟩ := h2
  rw [loop_tail h1 h2 hn]
  exact (tailM_suf (matchLoop_suf _) _ _ _ _ (fun _ => trivial)).trans hs
end Go.Proofs.YtdhmloejgoacaaaGreatDoor
