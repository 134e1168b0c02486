/- Tables of buckets: Next, Tokens, Give, Counts, Drop, Len, case by case. -/
import Derived.Test.YtoichcjlfpijeaaQOps
import Derived.Maps.OwnSet
namespace Go.Proofs.Ytoichcjlfpijeaa
open Go.RowKit Go.Bl

section
variable {w : World} {t m : Nat} {f : ByteArray → Option Value} {T : ByteArray → Option Bk} {n : Nat} {F : List Nat}

/-! ### Tokens -/
theorem tok_nil (s : ByteArray) (now : Int) (w : World) : Calls Try.prog 15 #[.pointer none, .string s, .int .i64 now] w fun e w' => e = .returned (.tuple #[.int .i64 0, .int .i64 2]) ∧ w = w' := by
  go_enter Try.func15, Try.ntmps15
  go_wp2_with (go_at_call 39; refine (at_nil _ _ _ _).mono ?_; rintro e w' ⟨rfl, rfl⟩)
  go_ret2
  exact ⟨rfl, rfl⟩
theorem tok_bad (t : Nat) (s : ByteArray) (now : Int) (w : World) (h : ¬ good 0 now) : Calls Try.prog 15 #[ptr t, .string s, .int .i64 now] w fun e w' => e = .returned (.tuple #[.int .i64 0, .int .i64 1]) ∧ w = w' := by
  have H := Lib.hid (at_bad t s 0 now w h)
  clear h
  go_enter Try.func15, Try.ntmps15
  go_wp2_with (go_at_call 39; refine H.out.mono ?_; rintro e w' ⟨rfl, rfl⟩)
  go_ret2
  exact ⟨rfl, rfl⟩
theorem tok_none (h : TabO w t m f T n F) (s : ByteArray) (now : Int) (hg : good 0 now) (hs : f s = none) :
    Calls Try.prog 15 #[ptr t, .string s, .int .i64 now] w fun e w' => e = .returned (.tuple #[.int .i64 0, .int .i64 5]) ∧ w = w' := by
  have H := Lib.hid (at_none h s 0 now hg hs)
  clear h hg hs
  go_enter Try.func15, Try.ntmps15
  go_wp2_with (go_at_call 39; refine H.out.mono ?_; rintro e w' ⟨rfl, rfl⟩)
  go_ret2
  exact ⟨rfl, rfl⟩
theorem tok_some (h : TabO w t m f T n F) (s : ByteArray) (now : Int) (hg : good 0 now) (k : Nat) (b : Bk) (hs : f s = some (ptr k)) (hb : BkAt w k b) (ok : b.Ok) :
    Calls Try.prog 15 #[ptr t, .string s, .int .i64 now] w fun e w' => e = .returned (.tuple #[.int .i64 (fillM b now).has, .int .i64 0]) ∧ BkAt w' k (fillM b now) ∧ Fr [k] w w' := by
  have H := Lib.hid (at_some h s 0 now hg k b hs hb ok)
  generalize fillM b now = b1 at *
  clear h hs hb ok hg
  go_enter Try.func15, Try.ntmps15
  go_wp2_with fail
  refine H.out.mono ?_
  rintro e w' ⟨rfl, hb', hF⟩
  obtain ⟨c0, c1, c2, c3, c4, c5, c6, c7, fz⟩ := bk_cells hb'
  go_wp2
  go_ret2
  exact ⟨rfl, hb', hF⟩

/-! ### Give -/
def giveB (b : Bk) (c : Int) : Bk := if b.burst ≤ b.has + c then { b with has := b.burst, part := 0 } else { b with has := b.has + c }
theorem give_nil (s : ByteArray) (c n : Int) (w : World) : Calls Try.prog 34 #[.pointer none, .string s, .int .i64 c, .int .i64 n] w fun e w' => e = .returned (.int .i64 2) ∧ w = w' := by
  go_enter Try.func34, Try.ntmps34
  go_wp2_with (go_at_call 39; refine (at_nil _ _ _ _).mono ?_; rintro e w' ⟨rfl, rfl⟩)
  go_ret
  exact ⟨rfl, rfl⟩
theorem give_bad (t : Nat) (s : ByteArray) (c n : Int) (w : World) (h : ¬ good c n) : Calls Try.prog 34 #[ptr t, .string s, .int .i64 c, .int .i64 n] w fun e w' => e = .returned (.int .i64 1) ∧ w = w' := by
  have H := Lib.hid (at_bad t s c n w h)
  clear h
  go_enter Try.func34, Try.ntmps34
  go_wp2_with (go_at_call 39; refine H.out.mono ?_; rintro e w' ⟨rfl, rfl⟩)
  go_ret
  exact ⟨rfl, rfl⟩
theorem give_none (h : TabO w t m f T n F) (s : ByteArray) (c now : Int) (hg : good c now) (hs : f s = none) :
    Calls Try.prog 34 #[ptr t, .string s, .int .i64 c, .int .i64 now] w fun e w' => e = .returned (.int .i64 5) ∧ w = w' := by
  have H := Lib.hid (at_none h s c now hg hs)
  clear h hg hs
  go_enter Try.func34, Try.ntmps34
  go_wp2_with (go_at_call 39; refine H.out.mono ?_; rintro e w' ⟨rfl, rfl⟩)
  go_ret
  exact ⟨rfl, rfl⟩
theorem give_some (h : TabO w t m f T n F) (s : ByteArray) (c now : Int) (hg : good c now) (k : Nat) (b : Bk) (hs : f s = some (ptr k)) (hb : BkAt w k b) (ok : b.Ok) :
    Calls Try.prog 34 #[ptr t, .string s, .int .i64 c, .int .i64 now] w fun e w' => e = .returned (.int .i64 0) ∧ BkAt w' k (giveB (fillM b now) c) ∧ Fr [k] w w' := by
  have H := Lib.hid (at_some h s c now hg k b hs hb ok)
  have ok1 := fillM_ok b ok now hg.2.2.1 hg.2.2.2
  obtain ⟨g1, g2, g3, g4⟩ := hg
  generalize fillM b now = b1 at *
  have x1 := ok1.has0
  have x2 := ok1.has1
  have x3 := ok1.burst1
  clear h hs hb ok ok1
  by_cases hge : b1.burst ≤ b1.has + c
  · have hB : giveB b1 c = { b1 with has := b1.burst, part := 0 } := if_pos hge
    have HB := Lib.hid hB
    clear hB
    go_enter Try.func34, Try.ntmps34
    go_wp2_with fail
    refine H.out.mono ?_
    rintro e w' ⟨rfl, hb', hF⟩
    obtain ⟨c0, c1, c2, c3, c4, c5, c6, c7, fz⟩ := bk_cells hb'
    have hb2 : BkAt (w'.setCell ⟨k, 2, none⟩ (.int .i64 (b1.has + c))) k { b1 with has := b1.has + c } := heap_setCell hb' 2 _
    have HF := fun j => full_any k { b1 with has := b1.has + c } ((w'.setCell ⟨k, 2, none⟩ (.int .i64 (b1.has + c))).drewN j) hb2
    have HF2 := Lib.hid HF
    have hF3 : Fr [k] w (w'.setCell ⟨k, 2, none⟩ (.int .i64 (b1.has + c))) := hF.setCell1 _ _
    clear HF hb2
    go_wp2_with fail
    go_quiet (fail)
    go_wp2_with (go_at_call 62; refine (HF2.out _).mono ?_; rintro e w2 ⟨rfl, hb3, hF4⟩)
    go_ret
    rw [HB.out]
    exact ⟨rfl, hb3, (hF3.drewN _).trans hF4⟩
  · have hB : giveB b1 c = { b1 with has := b1.has + c } := if_neg hge
    have HB := Lib.hid hB
    clear hB
    go_enter Try.func34, Try.ntmps34
    go_wp2_with fail
    refine H.out.mono ?_
    rintro e w' ⟨rfl, hb', hF⟩
    obtain ⟨c0, c1, c2, c3, c4, c5, c6, c7, fz⟩ := bk_cells hb'
    have hb2 : BkAt (w'.setCell ⟨k, 2, none⟩ (.int .i64 (b1.has + c))) k { b1 with has := b1.has + c } := heap_setCell hb' 2 _
    have hF3 : Fr [k] w (w'.setCell ⟨k, 2, none⟩ (.int .i64 (b1.has + c))) := hF.setCell1 _ _
    go_wp2_with fail
    go_quiet (fail)
    go_wp2_with fail
    go_ret
    rw [HB.out]
    exact ⟨rfl, hb2, hF3.drewN _⟩

theorem giveB_ok (b : Bk) (ok : b.Ok) (c : Int) (h0 : 0 ≤ c) : (giveB b c).Ok := by
  have h1 := ok.has0
  have h2 := ok.burst0
  unfold giveB
  split
  · exact { ok with has0 := by dsimp only; omega, has1 := Int.le_refl _, part0 := Int.le_refl _, part1 := by dsimp only; omega, top := fun _ => rfl }
  · exact { ok with has0 := by dsimp only; omega, has1 := by dsimp only; omega, top := by dsimp only; intro h; omega }

/-! ### Next -/
def nextV (b : Bk) (c : Int) : Int × Int :=
  if b.burst < c ∨ b.has < c ∧ b.rate = 0 then (0, 190) else
  if c ≤ b.has then (b.at_, 0) else
  if b.at_ + ((c - b.has) * 1000000000 - b.part + b.rate - 1) / b.rate ≤ 1125899906842624 then (b.at_ + ((c - b.has) * 1000000000 - b.part + b.rate - 1) / b.rate, 0) else (0, 1)
theorem next_nil (s : ByteArray) (c n : Int) (w : World) : Calls Try.prog 32 #[.pointer none, .string s, .int .i64 c, .int .i64 n] w fun e w' => e = .returned (.tuple #[.int .i64 0, .int .i64 2]) ∧ w = w' := by
  go_enter Try.func32, Try.ntmps32
  go_wp2_with (go_at_call 39; refine (at_nil _ _ _ _).mono ?_; rintro e w' ⟨rfl, rfl⟩)
  go_ret2
  exact ⟨rfl, rfl⟩
theorem next_bad (t : Nat) (s : ByteArray) (c n : Int) (w : World) (h : ¬ good c n) : Calls Try.prog 32 #[ptr t, .string s, .int .i64 c, .int .i64 n] w fun e w' => e = .returned (.tuple #[.int .i64 0, .int .i64 1]) ∧ w = w' := by
  have H := Lib.hid (at_bad t s c n w h)
  clear h
  go_enter Try.func32, Try.ntmps32
  go_wp2_with (go_at_call 39; refine H.out.mono ?_; rintro e w' ⟨rfl, rfl⟩)
  go_ret2
  exact ⟨rfl, rfl⟩
theorem next_none (h : TabO w t m f T n F) (s : ByteArray) (c now : Int) (hg : good c now) (hs : f s = none) :
    Calls Try.prog 32 #[ptr t, .string s, .int .i64 c, .int .i64 now] w fun e w' => e = .returned (.tuple #[.int .i64 0, .int .i64 5]) ∧ w = w' := by
  have H := Lib.hid (at_none h s c now hg hs)
  clear h hg hs
  go_enter Try.func32, Try.ntmps32
  go_wp2_with (go_at_call 39; refine H.out.mono ?_; rintro e w' ⟨rfl, rfl⟩)
  go_ret2
  exact ⟨rfl, rfl⟩

theorem next_some (h : TabO w t m f T n F) (s : ByteArray) (c now : Int) (hg : good c now) (k : Nat) (b : Bk) (hs : f s = some (ptr k)) (hb : BkAt w k b) (ok : b.Ok) :
    Calls Try.prog 32 #[ptr t, .string s, .int .i64 c, .int .i64 now] w fun e w' => e = .returned (.tuple #[.int .i64 (nextV (fillM b now) c).1, .int .i64 (nextV (fillM b now) c).2]) ∧ BkAt w' k (fillM b now) ∧ Fr [k] w w' := by
  have H := Lib.hid (at_some h s c now hg k b hs hb ok)
  have ok1 := fillM_ok b ok now hg.2.2.1 hg.2.2.2
  obtain ⟨g1, g2, g3, g4⟩ := hg
  generalize fillM b now = b1 at *
  have x1 := ok1.has0
  have x2 := ok1.has1
  have x3 := ok1.burst1
  have x4 := ok1.rate0
  have x5 := ok1.rate1
  have x6 := ok1.part0
  have x7 := ok1.part1
  have x8 := ok1.at0
  have x9 := ok1.at1
  clear h hs hb ok
  by_cases h1 : b1.burst < c
  · have hV : nextV b1 c = (0, 190) := if_pos (.inl h1)
    have HV := Lib.hid hV
    clear hV
    go_enter Try.func32, Try.ntmps32
    go_wp2_with fail
    refine H.out.mono ?_
    rintro e w' ⟨rfl, hb', hF⟩
    obtain ⟨c0, c1, c2, c3, c4, c5, c6, c7, fz⟩ := bk_cells hb'
    go_wp2_with fail
    go_ret2
    rw [HV.out]
    exact ⟨rfl, hb', hF⟩
  by_cases h2 : c ≤ b1.has
  · have hV : nextV b1 c = (b1.at_, 0) := by rw [nextV, if_neg (by omega), if_pos h2]
    have HV := Lib.hid hV
    clear hV
    go_enter Try.func32, Try.ntmps32
    go_wp2_with fail
    refine H.out.mono ?_
    rintro e w' ⟨rfl, hb', hF⟩
    obtain ⟨c0, c1, c2, c3, c4, c5, c6, c7, fz⟩ := bk_cells hb'
    go_wp2_with fail
    go_ret2
    rw [HV.out]
    exact ⟨rfl, hb', hF⟩
  by_cases h3 : b1.rate = 0
  · have hV : nextV b1 c = (0, 190) := if_pos (.inr ⟨by omega, h3⟩)
    have HV := Lib.hid hV
    have hrt : (b1.rate == 0) = true := by simp [h3]
    clear hV h3
    go_enter Try.func32, Try.ntmps32
    go_wp2_with fail
    refine H.out.mono ?_
    rintro e w' ⟨rfl, hb', hF⟩
    obtain ⟨c0, c1, c2, c3, c4, c5, c6, c7, fz⟩ := bk_cells hb'
    go_wp2_with fail
    go_ret2
    rw [HV.out]
    exact ⟨rfl, hb', hF⟩
  have hrt : (b1.rate == 0) = false := by simp [h3]
  have hrp : 0 < b1.rate := by omega
  have hN0 : 0 ≤ (c - b1.has) * 1000000000 - b1.part := by omega
  have hN1 : (c - b1.has) * 1000000000 - b1.part ≤ 1000000000000000000 := by omega
  have hq0 : 0 ≤ ((c - b1.has) * 1000000000 - b1.part + b1.rate - 1) / b1.rate := Int.ediv_nonneg (by omega) (by omega)
  have hq1 : ((c - b1.has) * 1000000000 - b1.part + b1.rate - 1) / b1.rate ≤ (c - b1.has) * 1000000000 - b1.part + b1.rate - 1 := Int.ediv_le_self _ (by omega)
  have hq9 : ((c - b1.has) * 1000000000 - b1.part + b1.rate - 1) / b1.rate < 2000000000000000000 := by omega
  by_cases h4 : b1.at_ + ((c - b1.has) * 1000000000 - b1.part + b1.rate - 1) / b1.rate ≤ 1125899906842624
  · have hV : nextV b1 c = (b1.at_ + ((c - b1.has) * 1000000000 - b1.part + b1.rate - 1) / b1.rate, 0) := by rw [nextV, if_neg (by omega), if_neg h2, if_pos h4]
    have HV := Lib.hid hV
    clear hV h3
    go_enter Try.func32, Try.ntmps32
    go_wp2_with fail
    refine H.out.mono ?_
    rintro e w' ⟨rfl, hb', hF⟩
    obtain ⟨c0, c1, c2, c3, c4, c5, c6, c7, fz⟩ := bk_cells hb'
    have HM := Lib.hid (fun j => missing_any k b1 (w'.drewN j) hb' ok1 c g1 g2)
    go_wp2_with fail
    go_quiet ((go_at_call 60; exact Calls.quiet_of (HM.out _)))
    go_wp2_with (go_at_call 37; refine (isTime_yes _ _ (by omega) h4).mono ?_; rintro e w2 ⟨rfl, rfl⟩)
    go_ret2
    rw [HV.out]
    exact ⟨rfl, hb', hF.drewN _⟩
  · have hV : nextV b1 c = (0, 1) := by rw [nextV, if_neg (by omega), if_neg h2, if_neg h4]
    have HV := Lib.hid hV
    clear hV h3
    go_enter Try.func32, Try.ntmps32
    go_wp2_with fail
    refine H.out.mono ?_
    rintro e w' ⟨rfl, hb', hF⟩
    obtain ⟨c0, c1, c2, c3, c4, c5, c6, c7, fz⟩ := bk_cells hb'
    have HM := Lib.hid (fun j => missing_any k b1 (w'.drewN j) hb' ok1 c g1 g2)
    go_wp2_with fail
    go_quiet ((go_at_call 60; exact Calls.quiet_of (HM.out _)))
    go_wp2_with (go_at_call 37; refine (isTime_no _ _ (.inr (by omega))).mono ?_; rintro e w2 ⟨rfl, rfl⟩)
    go_ret2
    rw [HV.out]
    exact ⟨rfl, hb', hF.drewN _⟩

/-! ### Counts, Len, Drop -/
theorem len_nil (w : World) : Calls Try.prog 36 #[.pointer none] w fun e w' => e = .returned (.int .i64 0) ∧ w = w' := by
  go_enter Try.func36, Try.ntmps36
  go_wp2
  go_ret
  exact ⟨rfl, rfl⟩
theorem len_tab (h : TabO w t m f T n F) : Calls Try.prog 36 #[ptr t] w fun e w' => e = .returned (.int .i64 n) ∧ w = w' := by
  have c0 : w.cell? ⟨t, 0, none⟩ = some (.map (some m)) := cell_of h.tab 0
  have HN := Lib.hid (fun t' => h.map.len (t' := t') Try.underlying81)
  clear h
  go_enter Try.func36, Try.ntmps36
  go_wp2_with (at_len; refine wpList_maplen rfl _ _ rfl _ _ rfl (HN.out _) ?_)
  go_ret
  exact ⟨rfl, rfl⟩

theorem cnt_nil (s : ByteArray) (w : World) : Calls Try.prog 17 #[.pointer none, .string s] w fun e w' => e = .returned (.tuple #[.agg #[.int .i64 0, .int .i64 0, .int .i64 0], .int .i64 2]) ∧ Fr [] w w' := by
  go_enter Try.func17, Try.ntmps17
  go_wp2
  exact bodyPost_ret (v := .tuple #[.agg #[.int .i64 0, .int .i64 0, .int .i64 0], .int .i64 2]) (by simp [results, Try.results17, go_sem]) rfl ⟨rfl, (Fr.refl _ _).alloc _⟩
theorem cnt_none (h : TabO w t m f T n F) (s : ByteArray) (hs : f s = none) : Calls Try.prog 17 #[ptr t, .string s] w fun e w' => e = .returned (.tuple #[.agg #[.int .i64 0, .int .i64 0, .int .i64 0], .int .i64 5]) ∧ Fr [] w w' := by
  have HG := Lib.hid (fun o => get_any (h.fr ((Fr.refl [] w).alloc o) (by simp)) s)
  rw [hs] at HG
  clear h hs
  go_enter Try.func17, Try.ntmps17
  go_wp2_with (go_at_call 47; refine (HG.out _).mono ?_; rintro e w' ⟨rfl, rfl⟩)
  exact bodyPost_ret (v := .tuple #[.agg #[.int .i64 0, .int .i64 0, .int .i64 0], .int .i64 5]) (by simp [results, Try.results17, go_sem]) rfl ⟨rfl, (Fr.refl _ _).alloc _⟩
theorem cnt_some (h : TabO w t m f T n F) (s : ByteArray) (k : Nat) (b : Bk) (hs : f s = some (ptr k)) (hb : BkAt w k b) : Calls Try.prog 17 #[ptr t, .string s] w fun e w' => e = .returned (.tuple #[.agg #[.int .i64 b.tk, .int .i64 b.rf, .int .i64 b.cs], .int .i64 0]) ∧ Fr [] w w' := by
  have HG := Lib.hid (fun o => get_any (h.fr ((Fr.refl [] w).alloc o) (by simp)) s)
  rw [hs] at HG
  obtain ⟨c0, c1, c2, c3, c4, c5, c6, c7, fz⟩ := bk_cells hb
  have hlt := lt_of_obj hb
  clear h hs
  go_enter Try.func17, Try.ntmps17
  go_wp2_with (go_at_call 47; refine (HG.out _).mono ?_; rintro e w' ⟨rfl, rfl⟩)
  exact bodyPost_ret (v := .tuple #[.agg #[.int .i64 b.tk, .int .i64 b.rf, .int .i64 b.cs], .int .i64 0]) (by simp [results, Try.results17, go_sem]) rfl ⟨rfl, (Fr.refl _ _).alloc _⟩

theorem drop_nil (s : ByteArray) (w : World) : Calls Try.prog 35 #[.pointer none, .string s] w fun e w' => e = .returned (.int .i64 2) ∧ Fr [] w w' := by
  go_enter Try.func35, Try.ntmps35
  go_wp2_with (go_at_call 17; refine (cnt_nil _ _).mono ?_; rintro e w' ⟨rfl, hF⟩)
  go_ret
  exact ⟨rfl, hF.alloc _⟩
theorem drop_none (h : TabO w t m f T n F) (s : ByteArray) (hs : f s = none) : Calls Try.prog 35 #[ptr t, .string s] w fun e w' => e = .returned (.int .i64 5) ∧ Fr [] w w' := by
  have HC := Lib.hid (cnt_none h s hs)
  clear h hs
  go_enter Try.func35, Try.ntmps35
  go_wp2_with (go_at_call 17; refine HC.out.mono ?_; rintro e w' ⟨rfl, hF⟩)
  go_ret
  exact ⟨rfl, hF.alloc _⟩
theorem TabO.drop {w2 : World} (h : TabO w t m f T n F) (s : ByteArray) {v : Value} (hs : f s = some v) (hm : MapAt w2 m (fun x => if x = s then none else f x) (drp (f s) n)) (hF : Fr [m] w w2) :
    TabO w2 t m (fun x => if x = s then none else f x) (fun x => if x = s then none else T x) (n - 1) F := by
  have hn : drp (f s) n = n - 1 := by simp [drp, hs]
  refine ⟨hF.obj h.tab (by simpa using Ne.symm h.ne_tm), hn ▸ hm, h.tF, h.mF, fun x hx => ?_, fun x v hv => ?_, fun x x' v hv hv' => ?_, fun i hi => Nat.lt_of_lt_of_le (h.lt i hi) hF.size, by have := h.room; omega⟩
  · by_cases e : x = s
    · simp [e]
    · simp only [e, if_false] at hx ⊢; exact h.no x hx
  · by_cases e : x = s
    · simp [e] at hv
    · simp only [e, if_false] at hv ⊢
      obtain ⟨k, b, h1, h2, h3, h4, h5⟩ := h.yes x v hv
      exact ⟨k, b, h1, h2, hF.obj h3 (by simpa using (h.ne_tk h3).2), h4, h5⟩
  · by_cases e : x = s
    · simp [e] at hv
    · by_cases e' : x' = s
      · simp [e'] at hv'
      · simp only [e, e', if_false] at hv hv'; exact h.inj x x' v hv hv'
theorem drop_some (h : TabO w t m f T n F) (s : ByteArray) (k : Nat) (b : Bk) (hs : f s = some (ptr k)) (hb : BkAt w k b) : Calls Try.prog 35 #[ptr t, .string s] w fun e w' => e = .returned (.int .i64 0) ∧ Fr [m] w w' ∧
    TabO w' t m (fun x => if x = s then none else f x) (fun x => if x = s then none else T x) (n - 1) F := by
  have HC := Lib.hid (cnt_some h s k b hs hb)
  go_enter Try.func35, Try.ntmps35
  go_wp2_with fail
  refine HC.out.mono ?_
  rintro e w1 ⟨rfl, hF⟩
  have h1 := (h.fr hF (by simp)).fr ((Fr.refl [] w1).alloc (.cells #[.int .i64 b.tk, .int .i64 b.rf, .int .i64 b.cs] 43)) (by simp)
  obtain ⟨w2, hd, hM, hF2, _⟩ := h1.map.drop Try.underlying81 Try.underlying9 s
  have c0 : w1.cell? ⟨t, 0, none⟩ = some (.map (some m)) := cell_of (h.fr hF (by simp)).tab 0
  have hlt := lt_of_obj (h.fr hF (by simp)).tab
  have HZ := Lib.hid hd
  have HH := Lib.hid (And.intro ((hF.mono (by simp)).trans (((Fr.refl _ _).alloc _).trans hF2)) (h1.drop s hs hM hF2))
  clear hd h h1 hb hs hM hF2
  go_wp2_with (at_delete; refine wpList_delete rfl _ _ _ _ rfl _ _ _ rfl rfl (HZ.out _ _) ?_)
  go_ret
  exact ⟨rfl, HH.out.1, HH.out.2⟩
end
end Go.Proofs.Ytoichcjlfpijeaa
