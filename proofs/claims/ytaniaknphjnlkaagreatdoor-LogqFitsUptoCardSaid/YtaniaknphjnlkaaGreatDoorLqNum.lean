/- A number is read. -/
import Derived.Test.YtaniaknphjnlkaaGreatDoorShelf
import Derived.Test.YtaniaknphjnlkaaGreatDoorLqRQC
import Derived.Test.YtaniaknphjnlkaaGreatDoorLqNumP
import Derived.Shelf.Strings.SlTrimAscii
import Derived.Shelf.Strconv.AtoiAll
import Derived.Lib.AtoiErrMem
namespace Go.Proofs.YtaniaknphjnlkaaGreatDoor
open Go.RowKit Go.Bl Go.Lq

theorem pow10_at : Tryz.prog.globalNamed "internal/strconv.uint64pow10" = some 5 := by kernel_rfl
/-- What the package's variables hold. -/
structure GV (w : World) : Prop where
  syn : ∃ a b, w.cell? ⟨3, 0, none⟩ = some (.iface a b)
  ran : ∃ a b, w.cell? ⟨4, 0, none⟩ = some (.iface a b)
  tab : Lib.TabIs Tryz.prog w "internal/strconv.uint64pow10" .u64 Lib.pow10Tab
  utf : Lib.Utf8Tabs 1 2 w
theorem cell_below {B : Nat} {w w' : World} (h : Below B w w') {a : Addr} (ha : a.block < B) : w'.cell? a = w.cell? a := h.cell ha
theorem GV.below {B : Nat} {w w' : World} (h : GV w) (hB : Below B w w') (h8 : 8 ≤ B) : GV w' := by
  obtain ⟨⟨a, b, h1⟩, ⟨c, d, h2⟩, h4, h3⟩ := h
  refine ⟨⟨a, b, ?_⟩, ⟨c, d, ?_⟩, ?_, ?_⟩
  · rw [cell_below hB (by dsimp only; omega)]; exact h1
  · rw [cell_below hB (by dsimp only; omega)]; exact h2
  · unfold Lib.TabIs World.var? at h4 ⊢
    rw [pow10_at] at h4 ⊢
    simp only [Option.bind_some] at h4 ⊢
    rw [hB.block _ (by omega)]
    exact h4
  · refine ⟨fun c hc => ?_, fun i hi => ⟨?_, ?_⟩⟩
    · rw [cell_below hB (by dsimp only; omega)]; exact h3.1 c hc
    · rw [cell_below hB (by dsimp only; omega)]; exact (h3.2 i hi).1
    · rw [cell_below hB (by dsimp only; omega)]; exact (h3.2 i hi).2
theorem fr_new {w w' : World} (h : Below w.heap.size w w') (S : List Nat) : Fr S w w' := ⟨h.os, h.tape, h.output, h.size, fun i hi _ => h.block i hi⟩

theorem trimDigits (m : Bs) (w : World) : Calls Tryz.prog 63 #[.string ⟨m.toArray⟩, .string ⟨#[48, 49, 50, 51, 52, 53, 54, 55, 56, 57]⟩] w fun e w' => e = .returned (.string ⟨(m.dropWhile isDigit).toArray⟩) ∧ Fr [] w w' :=
  (Any.strings_TrimLeft_laid Tryz.lays161 (by kernel_rfl) ⟨m.toArray⟩ ⟨#[48, 49, 50, 51, 52, 53, 54, 55, 56, 57]⟩ w (by decide) (ascii_of_all (by decide))).mono fun e w' h => by
    refine ⟨?_, fr_new h.2 _⟩
    rw [h.1]
    unfold Lib.trimLeftS
    show Ending.returned (.string ⟨(m.dropWhile (([48, 49, 50, 51, 52, 53, 54, 55, 56, 57] : Bs).contains ·)).toArray⟩) = _
    rw [trim_digits]

theorem atoi_any {d : Bs} (hd : d.all isDigit = true) (hl : d.length ≤ 1024) {w : World} (hG : GV w) :
    Calls Tryz.prog 64 #[.string ⟨d.toArray⟩] w fun e w' => ∃ n ev, e = .returned (.tuple #[.int .i64 n, ev]) ∧ Fr [] w w' ∧ ((ev = .nilIface ∧ d ≠ [] ∧ n = (numOf d : Int)) ∨ ((∃ t v, ev = .iface t v) ∧ (d = [] ∨ 9223372036854775808 ≤ numOf d))) := by
  have hs : (ByteArray.mk d.toArray).size = d.length := by simp [ByteArray.size]
  rcases atoi_digits hd with ⟨h0, h⟩ | ⟨h0, h⟩ | ⟨h0, h, h2⟩
  · obtain ⟨a, b, hv⟩ := hG.syn
    refine (Any.strconv_Atoi_syntax Tryz.laysC172 ⟨d.toArray⟩ (by omega) (by rw [show (ByteArray.mk d.toArray).data.toList = d from rfl, h]; rfl) (.iface a b) w hv (.inr ⟨_, _, rfl⟩)).mono ?_
    rintro e w' ⟨N, rfl, _, _, hb⟩
    exact ⟨_, _, rfl, fr_new hb _, .inr ⟨⟨_, _, rfl⟩, .inl h0⟩⟩
  · refine (Any.strconv_Atoi_ok Tryz.laysC172 ⟨d.toArray⟩ (by omega) _ h w).mono ?_
    rintro e w' ⟨rfl, hw⟩
    refine ⟨_, _, rfl, ?_, .inl ⟨rfl, h0, rfl⟩⟩
    rcases hw with rfl | ⟨t, rfl⟩
    · exact Fr.refl _ _
    · exact fr_new (Lib.bytesWorld_below _ _ _) _
  · obtain ⟨a, b, hv⟩ := hG.ran
    refine (Any.strconv_Atoi_range Tryz.laysC172 ⟨d.toArray⟩ (by omega) h (.iface a b) w hv (.inr ⟨_, _, rfl⟩)).mono ?_
    rintro e w' ⟨N, rfl, _, _, hb⟩
    exact ⟨_, _, rfl, fr_new hb _, .inr ⟨⟨_, _, rfl⟩, .inr h2⟩⟩

set_option maxRecDepth 100000 in
set_option maxHeartbeats 4000000 in
theorem number_any {b : Nat} {s : ByteArray} {l : Bs} {c2 c3 c4 c5 : Value} {w : World} (hR : Rd w b s l c2 c3 c4 c5) (hG : GV w) (hb : 8 ≤ b) (most : Int) (hm : most ≤ 1000) :
    Calls Tryz.prog 44 #[.pointer (some ⟨b, 0, none⟩), .int .i64 most] w (Reads b s c2 c3 c4 c5 (numberL most l) (fun n => .int .i64 n) w) := by
  obtain ⟨pr, hpr⟩ : ∃ pr, numberL most l = pr := ⟨_, rfl⟩
  rw [hpr]
  go_enter Tryz.func44, Tryz.ntmps44
  go_wp2_with fail
  refine (byte_any b s l c2 c3 c4 c5 _ hR).mono ?_
  rintro e w1 ⟨rfl, hR1, hF1⟩
  obtain ⟨m, hm0⟩ : ∃ m, skipL l = m := ⟨_, rfl⟩
  unfold numberL at hpr
  dsimp only at hpr
  rw [hm0] at hR1 hpr
  have hG1 : GV w1 := hG.below (B := b) (hF1.below (Nat.le_of_lt (lt_of_obj hR.cells)) (by simp)) hb
  have k0 := cell_of hR1.cells 0
  have k1 := cell_of hR1.cells 1
  simp only [List.getElem?_toArray, List.getElem?_cons_zero, List.getElem?_cons_succ] at k0 k1
  obtain ⟨hl, hx⟩ := hR1.left
  have hsh := hR1.short
  have hxs : s.extract (s.size - m.length) s.size = ⟨m.toArray⟩ := bs_ext (by rw [hx])
  have hT := trimDigits m
  obtain ⟨d, hd⟩ : ∃ d, m.takeWhile isDigit = d := ⟨_, rfl⟩
  obtain ⟨r, hr⟩ : ∃ r, m.dropWhile isDigit = r := ⟨_, rfl⟩
  have hmd : m = d ++ r := by rw [← hd, ← hr, List.takeWhile_append_dropWhile]
  rw [hd, hr] at hpr
  rw [hr] at hT
  have hall : d.all isDigit = true := by rw [← hd]; exact List.all_takeWhile
  have hlen : m.length = d.length + r.length := by rw [hmd]; simp
  have HMD := Lib.hid hmd
  clear hmd hd hr
  have hsz : s.size - (s.size - m.length) = m.length := by omega
  have HR := Lib.hid hR1
  have HLEN := Lib.hid hlen
  clear hR1 hlen
  have hsb : (ByteArray.mk r.toArray).size = r.length := by simp [ByteArray.size]
  have hsd : (ByteArray.mk d.toArray).size = d.length := by simp [ByteArray.size]
  have hsm : (ByteArray.mk m.toArray).size = m.length := by simp [ByteArray.size]
  go_wp2_with fail
  go_quiet (fail)
  go_wp2_with fail
  (try rw [hxs]); (try rw [hsz])
  refine (hT _).mono ?_
  rintro e w2 ⟨rfl, hF2⟩
  have hsub : wrap64 ((m.length : Int) - (r.length : Int)) = (d.length : Int) := by have := HLEN.out; unfold wrap64; omega
  have hbd : (0 : Int) ≤ (d.length : Int) ∧ (d.length : Int) ≤ (m.length : Int) := by have := HLEN.out; omega
  go_wp2_with fail
  have hxd : (ByteArray.mk m.toArray).extract 0 d.length = ⟨d.toArray⟩ := bs_ext (by rw [extract_list, HMD.out]; simp)
  (try rw [hxd])
  have hG2 : GV w2 := hG1.below (B := b) ((hF2.of_drewN).below (Nat.le_of_lt (lt_of_obj HR.out.cells)) (by simp)) hb
  refine (atoi_any hall (by have := HLEN.out; omega) hG2).mono ?_
  rintro e w3 ⟨n, ev, rfl, hF3, hcase⟩
  have hF23 : Fr [b] w1 w3 := (hF2.of_drewN.trans hF3).mono (by simp)
  have hR3 := HR.out.fr (hF2.of_drewN.trans hF3) (by simp)
  have j1 := cell_of hR3.cells 1
  have z1 := frozen_of hR3.cells 1
  simp only [List.getElem?_toArray, List.getElem?_cons_zero, List.getElem?_cons_succ] at j1
  rcases hcase with ⟨rfl, hd0, rfl⟩ | ⟨⟨t, v, rfl⟩, hbig⟩
  · obtain ⟨c, cs, rfl⟩ : ∃ c cs, d = c :: cs := List.exists_cons_of_ne_nil hd0
    obtain ⟨D, hD⟩ : ∃ D : ByteArray, ⟨(c :: cs).toArray⟩ = D := ⟨_, rfl⟩
    have hD1 : D.size = cs.length + 1 := by rw [← hD]; simp [ByteArray.size]
    have hD2 : (0 : Int) ≤ 0 ∧ (0 : Int) < (D.size : Int) := by omega
    have hD3 : 0 < D.size := by omega
    have hD0 : D[0]'hD3 = c := by subst hD; rfl
    have hD4 : D.data[0]? = some c := by subst hD; rfl
    rw [hD]
    by_cases h48 : c = 48
    · have q1 : ((c.toNat : Int) == 48) = true := by subst h48; rfl
      rw [if_pos (.inr (.inl (by rw [h48]; rfl)))] at hpr
      go_wp2_with fail
      refine (bad_any b s m _ _ _ _ _ hR3).mono ?_
      rintro e w4 ⟨rfl, rfl⟩
      go_wp2_with fail
      exact ⟨rfl, Reads.bad (hF1.trans hF23) hpr.symm rfl⟩
    · have q1 : ((c.toNat : Int) == 48) = false := by
        rw [show (48 : Int) = ((48 : Nat) : Int) from rfl, beq_u8 c 48 (by omega)]
        simpa using h48
      by_cases hbg : most < (numOf (c :: cs) : Int)
      · rw [if_pos (.inr (.inr hbg))] at hpr
        go_wp2_with fail
        refine (bad_any b s m _ _ _ _ _ hR3).mono ?_
        rintro e w4 ⟨rfl, rfl⟩
        go_wp2_with fail
        exact ⟨rfl, Reads.bad (hF1.trans hF23) hpr.symm rfl⟩
      · have hle : ¬ (numOf (c :: cs) : Int) > most := hbg
        rw [if_neg (by simp [h48]; omega)] at hpr
        go_wp2_with fail
        go_ret
        refine Reads.ok ((hF1.trans hF23).setCell1 1 _) hpr.symm rfl (hR3.set (by rw [HMD.out]; exact List.suffix_append _ _) ?_)
        have := HLEN.out
        simp at this
        unfold wrap64
        omega
  · have hc : d = [] ∨ d.head? = some 48 ∨ most < (numOf d : Int) := by
      rcases hbig with h | h
      · exact .inl h
      · exact .inr (.inr (by omega))
    rw [if_pos hc] at hpr
    go_wp2_with fail
    refine (bad_any b s m _ _ _ _ _ hR3).mono ?_
    rintro e w4 ⟨rfl, rfl⟩
    go_wp2_with fail
    exact ⟨rfl, Reads.bad (hF1.trans hF23) hpr.symm rfl⟩
end Go.Proofs.YtaniaknphjnlkaaGreatDoor
