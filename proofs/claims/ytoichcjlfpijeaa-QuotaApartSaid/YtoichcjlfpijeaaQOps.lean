/- Tables of buckets: Take, Give, Tokens, Next, Counts, Drop, Len, Set. -/
import Derived.Test.YtoichcjlfpijeaaQTab
namespace Go.Proofs.Ytoichcjlfpijeaa
open Go.RowKit Go.Bl

def takeB (b : Bk) (cost : Int) : Bk :=
  if b.has < cost then { b with rf := wrap64 (b.rf + 1) } else { b with has := b.has - cost, tk := wrap64 (b.tk + 1), cs := if b.cs + cost ≤ 4611686018427387904 then b.cs + cost else 4611686018427387904 }
def takeE (b : Bk) (cost : Int) : Int := if b.has < cost then 190 else 0

theorem take_nil (s : ByteArray) (c n : Int) (w : World) : Calls Try.prog 13 #[.pointer none, .string s, .int .i64 c, .int .i64 n] w fun e w' => e = .returned (.int .i64 2) ∧ w = w' := by
  go_enter Try.func13, Try.ntmps13
  go_wp2_with (go_at_call 39; refine (at_nil _ _ _ _).mono ?_; rintro e w' ⟨rfl, rfl⟩)
  go_ret
  exact ⟨rfl, rfl⟩
theorem take_bad (t : Nat) (s : ByteArray) (c n : Int) (w : World) (h : ¬ good c n) : Calls Try.prog 13 #[ptr t, .string s, .int .i64 c, .int .i64 n] w fun e w' => e = .returned (.int .i64 1) ∧ w = w' := by
  have H := Lib.hid h
  clear h
  go_enter Try.func13, Try.ntmps13
  go_wp2_with (go_at_call 39; refine (at_bad _ _ _ _ _ H.out).mono ?_; rintro e w' ⟨rfl, rfl⟩)
  go_ret
  exact ⟨rfl, rfl⟩
theorem take_none {w : World} {t m : Nat} {f : ByteArray → Option Value} {T : ByteArray → Option Bk} {n : Nat} {F : List Nat} (h : TabO w t m f T n F) (s : ByteArray) (c now : Int) (hg : good c now) (hs : f s = none) :
    Calls Try.prog 13 #[ptr t, .string s, .int .i64 c, .int .i64 now] w fun e w' => e = .returned (.int .i64 5) ∧ w = w' := by
  have H := Lib.hid (at_none h s c now hg hs)
  clear h hg hs
  go_enter Try.func13, Try.ntmps13
  go_wp2_with (go_at_call 39; refine H.out.mono ?_; rintro e w' ⟨rfl, rfl⟩)
  go_ret
  exact ⟨rfl, rfl⟩
theorem take_some {w : World} {t m : Nat} {f : ByteArray → Option Value} {T : ByteArray → Option Bk} {n : Nat} {F : List Nat} (h : TabO w t m f T n F) (s : ByteArray) (c now : Int) (hg : good c now) (k : Nat) (b : Bk) (hs : f s = some (ptr k)) (hb : BkAt w k b) (ok : b.Ok) :
    Calls Try.prog 13 #[ptr t, .string s, .int .i64 c, .int .i64 now] w fun e w' => e = .returned (.int .i64 (takeE (fillM b now) c)) ∧ BkAt w' k (takeB (fillM b now) c) ∧ Fr [k] w w' := by
  have H := Lib.hid (at_some h s c now hg k b hs hb ok)
  have ok1 := fillM_ok b ok now hg.2.2.1 hg.2.2.2
  obtain ⟨g1, g2, g3, g4⟩ := hg
  generalize fillM b now = b1 at *
  have x1 := ok1.has0
  have x2 := ok1.has1
  have x3 := ok1.burst1
  have x4 := ok1.cs0
  have x5 := ok1.cs1
  clear h hs hb ok
  by_cases hlt : b1.has < c
  · have hE : takeE b1 c = 190 := if_pos hlt
    have hB : takeB b1 c = { b1 with rf := wrap64 (b1.rf + 1) } := if_pos hlt
    have HE := Lib.hid hE
    have HB := Lib.hid hB
    clear hE hB
    go_enter Try.func13, Try.ntmps13
    go_wp2_with fail
    refine H.out.mono ?_
    rintro e w' ⟨rfl, hb', hF⟩
    obtain ⟨c0, c1, c2, c3, c4, c5, c6, c7, fz⟩ := bk_cells hb'
    go_wp2
    go_ret
    rw [HE.out, HB.out]
    refine ⟨rfl, ?_, hF.trans ?_⟩
    · exact heap_setCell hb' 6 _
    · repeat (first | with_reducible exact Fr.refl _ _ | with_reducible refine Fr.drew ?_ | with_reducible refine Fr.drewN ?_ _ | with_reducible refine Fr.setCell1 ?_ _ _)
  · have hE : takeE b1 c = 0 := if_neg hlt
    by_cases hm : b1.cs + c ≤ 4611686018427387904
    all_goals
      have hB : takeB b1 c = { b1 with has := b1.has - c, tk := wrap64 (b1.tk + 1), cs := if b1.cs + c ≤ 4611686018427387904 then b1.cs + c else 4611686018427387904 } := if_neg hlt
      first | rw [if_pos hm] at hB | rw [if_neg hm] at hB
      have HE := Lib.hid hE
      have HB := Lib.hid hB
      clear hE hB
      go_enter Try.func13, Try.ntmps13
      go_wp2_with fail
      refine H.out.mono ?_
      rintro e w' ⟨rfl, hb', hF⟩
      obtain ⟨c0, c1, c2, c3, c4, c5, c6, c7, fz⟩ := bk_cells hb'
      go_wp2
      go_ret
      rw [HE.out, HB.out]
      refine ⟨rfl, ?_, hF.trans ?_⟩
      · exact heap_setCell (heap_setCell (heap_setCell hb' 2 _) 5 _) 7 _
      · repeat (first | with_reducible exact Fr.refl _ _ | with_reducible refine Fr.drew ?_ | with_reducible refine Fr.drewN ?_ _ | with_reducible refine Fr.setCell1 ?_ _ _)

theorem takeB_ok (b : Bk) (ok : b.Ok) (c : Int) (h0 : 0 ≤ c) (h1 : c ≤ 1000000000) : (takeB b c).Ok := by
  unfold takeB
  split
  · exact { ok with }
  · have := ok.has0
    have := ok.has1
    have := ok.part0
    have := ok.cs0
    have := ok.top
    refine { ok with has0 := ?_, has1 := ?_, top := ?_, cs0 := ?_, cs1 := ?_ } <;> dsimp only
    · omega
    · omega
    · intro h; exact this (by omega)
    · split <;> omega
    · split <;> omega
end Go.Proofs.Ytoichcjlfpijeaa
