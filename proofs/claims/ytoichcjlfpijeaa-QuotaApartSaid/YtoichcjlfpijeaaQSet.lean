/- Tables of buckets: put, Set. -/
import Derived.Test.YtoichcjlfpijeaaQTab
import Derived.Maps.OwnSet
import Derived.Maps.OwnOps
namespace Go.Proofs.Ytoichcjlfpijeaa
open Go.RowKit Go.Bl

def Bk.new (rate burst now : Int) : Bk := ⟨rate, burst, burst, 0, now, 0, 0, 0⟩
def Bk.agg (b : Bk) : Value := .agg b.cells

theorem put_full {w : World} {t m : Nat} {f : ByteArray → Option Value} {T : ByteArray → Option Bk} {n : Nat} {F : List Nat} (h : TabO w t m f T n F) (s : ByteArray) (b : Bk) (hs : f s = none) (hn : 16 ≤ n) :
    Calls Try.prog 38 #[ptr t, .string s, b.agg] w fun e w' => e = .returned (.bool false) ∧ Fr [] w w' := by
  have h1 := h.fr ((Fr.refl [] w).alloc (.cells b.cells 89)) (by simp)
  have hl := h1.look s
  rw [hs] at hl
  have hlen : ∀ t', (Builtin.len_ #[81] t' #[.map (some m)]).run Try.prog (w.alloc (.cells b.cells 89)) = .ok (.int .i64 n) (w.alloc (.cells b.cells 89)) := fun t' => h1.map.len Try.underlying81
  have c0 : w.cell? ⟨t, 0, none⟩ = some (.map (some m)) := cell_of h.tab 0
  have hlt := lt_of_obj h.tab
  obtain ⟨rate, burst, has, part, at_, tk, rf, cs⟩ := b
  clear h h1 hs
  simp only [Bk.cells, Option.getD_none] at hl hlen
  have HL := Lib.hid hl
  have HN := Lib.hid hlen
  have hn' : (16 : Int) ≤ n := by omega
  clear hl hlen
  show Calls Try.prog 38 #[ptr t, .string s, .agg #[.int .i64 rate, .int .i64 burst, .int .i64 has, .int .i64 part, .int .i64 at_, .int .i64 tk, .int .i64 rf, .int .i64 cs]] w _
  go_enter Try.func38, Try.ntmps38
  go_wp2_with (first
    | (at_lookup; refine wpList_lookup rfl _ _ _ _ rfl _ _ _ rfl rfl HL.out ?_)
    | (at_len; refine wpList_maplen rfl _ _ rfl _ _ rfl (HN.out _) ?_))
  go_ret
  exact ⟨rfl, (Fr.refl _ _).alloc _⟩

/-- The table behind a store of a new bucket. -/
theorem TabO.put {w w2 : World} {t m : Nat} {f : ByteArray → Option Value} {T : ByteArray → Option Bk} {n : Nat} {F : List Nat} (h : TabO w t m f T n F) (s : ByteArray) (b : Bk) (ok : b.Ok)
    (hm : MapAt w2 m (fun x => if x = s then some (ptr w.heap.size) else f x) (bump (f s) n)) (hF : Fr [m] (w.alloc (.cells b.cells 89)) w2) (hr : f s = none → n < 16) :
    TabO w2 t m (fun x => if x = s then some (ptr w.heap.size) else f x) (fun x => if x = s then some b else T x) (bump (f s) n) (w.heap.size :: F) := by
  have h1 := h.fr ((Fr.refl [] w).alloc (.cells b.cells 89)) (by simp)
  have hne := h.ne_tm
  have hbk : BkAt (w.alloc (.cells b.cells 89)) w.heap.size b := heap_alloc w _
  have hml := h.map.lt
  refine ⟨hF.obj h1.tab (by simpa using Ne.symm hne), hm, by simp [h.tF], by simp [h.mF], fun x hx => ?_, fun x v hv => ?_, fun x x' v hv hv' => ?_, fun i hi => ?_, ?_⟩
  · by_cases e : x = s
    · simp [e] at hx
    · simp only [e, if_false] at hx ⊢; exact h.no x hx
  · by_cases e : x = s
    · simp only [e, if_true, Option.some.injEq] at hv ⊢
      subst hv
      exact ⟨_, b, rfl, rfl, hF.obj hbk (by simp; omega), ok, by simp⟩
    · simp only [e, if_false] at hv ⊢
      obtain ⟨k, b1, h2, h3, h4, h5, h6⟩ := h1.yes x v hv
      exact ⟨k, b1, h2, h3, hF.obj h4 (by simpa using (h1.ne_tk h4).2), h5, by simp [h6]⟩
  · have hlt : ∀ y k, f y = some (ptr k) → k ≠ w.heap.size := by
      intro y k hy
      obtain ⟨k', b1, h2, _, _, _, h6⟩ := h.yes y _ hy
      simp only [Value.pointer.injEq, Option.some.injEq, Addr.mk.injEq, and_true] at h2
      have := h.lt _ h6
      omega
    by_cases e : x = s
    · by_cases e' : x' = s
      · rw [e, e']
      · simp only [e, e', if_true, if_false, Option.some.injEq] at hv hv'
        subst hv
        exact absurd rfl (hlt _ _ hv')
    · by_cases e' : x' = s
      · simp only [e, e', if_true, if_false, Option.some.injEq] at hv hv'
        subst hv'
        exact absurd rfl (hlt _ _ hv)
      · simp only [e, e', if_false] at hv hv'
        exact h.inj x x' v hv hv'
  · have hz := hF.size
    rw [size_alloc'] at hz
    rcases List.mem_cons.1 hi with rfl | hi
    · omega
    · have := h.lt i hi; omega
  · have := h.room
    cases hf : f s with
    | none => have := hr hf; simp [bump]; omega
    | some v => simpa [bump] using this

set_option maxRecDepth 100000 in
theorem put_ok {w : World} {t m : Nat} {f : ByteArray → Option Value} {T : ByteArray → Option Bk} {n : Nat} {F : List Nat} (h : TabO w t m f T n F) (s : ByteArray) (b : Bk) (ok : b.Ok) (hr : f s = none → n < 16) :
    Calls Try.prog 38 #[ptr t, .string s, b.agg] w fun e w' => e = .returned (.bool true) ∧ Fr [m] w w' ∧
      TabO w' t m (fun x => if x = s then some (ptr w.heap.size) else f x) (fun x => if x = s then some b else T x) (bump (f s) n) (w.heap.size :: F) := by
  have h1 := h.fr ((Fr.refl [] w).alloc (.cells b.cells 89)) (by simp)
  have hl := h1.look s
  have hlen : ∀ t', (Builtin.len_ #[81] t' #[.map (some m)]).run Try.prog (w.alloc (.cells b.cells 89)) = .ok (.int .i64 n) (w.alloc (.cells b.cells 89)) := fun t' => h1.map.len Try.underlying81
  obtain ⟨w2, hst, hM, hF, hz⟩ := h1.map.store Try.underlying81 Try.underlying9 s (ptr w.heap.size)
  have hT := h.put s b ok hM hF hr
  have hF2 : Fr [m] w w2 := ((Fr.refl _ _).alloc _).trans hF
  have c0 : w.cell? ⟨t, 0, none⟩ = some (.map (some m)) := cell_of h.tab 0
  have hlt := lt_of_obj h.tab
  have HS := Lib.hid hst
  have HR := Lib.hid (And.intro hF2 hT)
  clear hst hT hF2 hM hF hz
  obtain ⟨rate, burst, has, part, at_, tk, rf, cs⟩ := b
  show Calls Try.prog 38 #[ptr t, .string s, .agg #[.int .i64 rate, .int .i64 burst, .int .i64 has, .int .i64 part, .int .i64 at_, .int .i64 tk, .int .i64 rf, .int .i64 cs]] w _
  simp only [Bk.cells] at hlen hl HS HR
  generalize bump (f s) n = N at HR ⊢
  cases hf : f s with
  | none =>
    have hn' : (n : Int) < 16 := by have := hr hf; omega
    rw [hf] at hl
    have HL := Lib.hid hl
    have HN := Lib.hid hlen
    clear hl hlen h h1 hr hf
    go_enter Try.func38, Try.ntmps38
    go_wp2_with (first
      | (at_lookup; refine wpList_lookup rfl _ _ _ _ rfl _ _ _ rfl rfl HL.out ?_)
      | (at_len; refine wpList_maplen rfl _ _ rfl _ _ rfl (HN.out _) ?_)
      | (at_mapUpdate; refine wpList_mapUpdate rfl _ _ _ _ rfl _ _ _ rfl rfl rfl HS.out ?_))
    go_ret
    exact ⟨rfl, HR.out.1, HR.out.2⟩
  | some v =>
    obtain ⟨k, b1, rfl, _, _, _, _⟩ := h.yes s v hf
    rw [hf] at hl
    have HL := Lib.hid hl
    clear hl hlen h h1 hr hf
    go_enter Try.func38, Try.ntmps38
    go_wp2_with (first
      | (at_lookup; refine wpList_lookup rfl _ _ _ _ rfl _ _ _ rfl rfl HL.out ?_)
      | (at_mapUpdate; refine wpList_mapUpdate rfl _ _ _ _ rfl _ _ _ rfl rfl rfl HS.out ?_))
    go_ret
    exact ⟨rfl, HR.out.1, HR.out.2⟩

def goodSet (rate burst now : Int) : Prop := 0 ≤ rate ∧ rate ≤ 1000000000 ∧ 1 ≤ burst ∧ burst ≤ 1000000000 ∧ 0 ≤ now ∧ now ≤ 1125899906842624

theorem new_ok {rate burst now : Int} (h : goodSet rate burst now) : (Bk.new rate burst now).Ok := by
  obtain ⟨h1, h2, h3, h4, h5, h6⟩ := h
  unfold Bk.new
  exact ⟨h1, h2, h3, h4, by dsimp only; omega, by dsimp only; omega, by dsimp only; omega, by dsimp only; omega, fun _ => rfl, h5, h6, by dsimp only; omega, by dsimp only; omega⟩

theorem set_nil (s : ByteArray) (r b n : Int) (w : World) : Calls Try.prog 11 #[.pointer none, .string s, .int .i64 r, .int .i64 b, .int .i64 n] w fun e w' => e = .returned (.int .i64 2) ∧ w = w' := by
  go_enter Try.func11, Try.ntmps11
  go_wp2
  go_ret
  exact ⟨rfl, rfl⟩

theorem set_bad (t : Nat) (s : ByteArray) (r b n : Int) (w : World) (h : ¬ goodSet r b n) : Calls Try.prog 11 #[ptr t, .string s, .int .i64 r, .int .i64 b, .int .i64 n] w fun e w' => e = .returned (.int .i64 1) ∧ w = w' := by
  by_cases h1 : r < 0
  · clear h
    go_enter Try.func11, Try.ntmps11
    go_wp2_with fail
    go_ret
    exact ⟨rfl, rfl⟩
  by_cases h2 : 1000000000 < r
  · clear h
    go_enter Try.func11, Try.ntmps11
    go_wp2_with fail
    go_ret
    exact ⟨rfl, rfl⟩
  by_cases h3 : b < 1
  · clear h
    go_enter Try.func11, Try.ntmps11
    go_wp2_with fail
    go_ret
    exact ⟨rfl, rfl⟩
  by_cases h4 : 1000000000 < b
  · clear h
    go_enter Try.func11, Try.ntmps11
    go_wp2_with fail
    go_ret
    exact ⟨rfl, rfl⟩
  have h5 : n < 0 ∨ 1125899906842624 < n := by unfold goodSet at h; omega
  clear h
  go_enter Try.func11, Try.ntmps11
  go_wp2_with (go_at_call 37; refine (isTime_no _ _ h5).mono ?_; rintro e w' ⟨rfl, rfl⟩)
  go_ret
  exact ⟨rfl, rfl⟩

theorem set_full {w : World} {t m : Nat} {f : ByteArray → Option Value} {T : ByteArray → Option Bk} {n : Nat} {F : List Nat} (h : TabO w t m f T n F) (s : ByteArray) (r b now : Int) (hg : goodSet r b now) (hs : f s = none) (hn : 16 ≤ n) :
    Calls Try.prog 11 #[ptr t, .string s, .int .i64 r, .int .i64 b, .int .i64 now] w fun e w' => e = .returned (.int .i64 7) ∧ Fr [] w w' := by
  have H := Lib.hid (put_full h s (Bk.new r b now) hs hn)
  obtain ⟨g1, g2, g3, g4, g5, g6⟩ := hg
  clear h hs hn
  go_enter Try.func11, Try.ntmps11
  go_wp2_with (first
    | (go_at_call 37; refine (isTime_yes _ _ g5 g6).mono ?_; rintro e w' ⟨rfl, rfl⟩)
    | (go_at_call 38; refine H.out.mono ?_; rintro e w' ⟨rfl, hF⟩))
  go_ret
  exact ⟨rfl, hF⟩
theorem set_ok {w : World} {t m : Nat} {f : ByteArray → Option Value} {T : ByteArray → Option Bk} {n : Nat} {F : List Nat} (h : TabO w t m f T n F) (s : ByteArray) (r b now : Int) (hg : goodSet r b now) (hr : f s = none → n < 16) :
    Calls Try.prog 11 #[ptr t, .string s, .int .i64 r, .int .i64 b, .int .i64 now] w fun e w' => e = .returned (.int .i64 0) ∧ Fr [m] w w' ∧
      TabO w' t m (fun x => if x = s then some (ptr w.heap.size) else f x) (fun x => if x = s then some (Bk.new r b now) else T x) (bump (f s) n) (w.heap.size :: F) := by
  have H := Lib.hid (put_ok h s (Bk.new r b now) (new_ok hg) hr)
  generalize bump (f s) n = N at H ⊢
  obtain ⟨g1, g2, g3, g4, g5, g6⟩ := hg
  clear h hr
  go_enter Try.func11, Try.ntmps11
  go_wp2_with (first
    | (go_at_call 37; refine (isTime_yes _ _ g5 g6).mono ?_; rintro e w' ⟨rfl, rfl⟩)
    | (go_at_call 38; refine H.out.mono ?_; rintro e w' ⟨rfl, hF, hT⟩))
  go_ret
  exact ⟨rfl, hF, hT⟩
end Go.Proofs.Ytoichcjlfpijeaa
