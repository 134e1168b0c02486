/- Tables of buckets: what they are, the walks of their small functions. -/
import Derived.Test.YtoichcjlfpijeaaQBk
import Derived.Test.YtoichcjlfpijeaaSMap
namespace Go.Proofs.Ytoichcjlfpijeaa
open Go.RowKit Go.Bl

abbrev ptr (k : Nat) : Value := .pointer (some ⟨k, 0, none⟩)
structure TabO (w : World) (t m : Nat) (f : ByteArray → Option Value) (T : ByteArray → Option Bk) (n : Nat) (F : List Nat) : Prop where
  tab : w.heap[t]? = some (.cells #[.map (some m)] 85 (0, 0))
  map : MapAt w m f n
  tF : t ∈ F
  mF : m ∈ F
  no : ∀ s, f s = none → T s = none
  yes : ∀ s v, f s = some v → ∃ k b, v = ptr k ∧ T s = some b ∧ BkAt w k b ∧ b.Ok ∧ k ∈ F
  inj : ∀ s s' v, f s = some v → f s' = some v → s = s'
  lt : ∀ i ∈ F, i < w.heap.size
  room : n ≤ 16

theorem TabO.ne_tm {w : World} {t m : Nat} {f : ByteArray → Option Value} {T : ByteArray → Option Bk} {n : Nat} {F : List Nat} (h : TabO w t m f T n F) : m ≠ t := by
  rintro rfl
  obtain ⟨es, clk, hm, _⟩ := h.map.ex
  rw [h.tab] at hm; cases hm
theorem TabO.ne_tk {w : World} {t m : Nat} {f : ByteArray → Option Value} {T : ByteArray → Option Bk} {n : Nat} {F : List Nat} (h : TabO w t m f T n F) {k : Nat} {b : Bk} (hb : BkAt w k b) : k ≠ t ∧ k ≠ m := by
  constructor
  · rintro rfl; rw [BkAt, h.tab] at hb; cases hb
  · rintro rfl
    obtain ⟨es, clk, hm, _⟩ := h.map.ex
    rw [BkAt, hm] at hb; cases hb

theorem TabO.set {w w' : World} {t m : Nat} {f : ByteArray → Option Value} {T : ByteArray → Option Bk} {n : Nat} {F : List Nat} (h : TabO w t m f T n F) {s : ByteArray} {k : Nat} {b b' : Bk} (hs : f s = some (ptr k)) (hb0 : BkAt w k b)
    (hF : Fr [k] w w') (hb : BkAt w' k b') (ok : b'.Ok) : TabO w' t m f (fun x => if x = s then some b' else T x) n F := by
  obtain ⟨h1, h2⟩ := h.ne_tk hb0
  refine ⟨hF.obj h.tab (by simpa using Ne.symm h1), h.map.fr hF (by simpa using Ne.symm h2), h.tF, h.mF, fun x hx => ?_, fun x v hv => ?_, h.inj, fun i hi => Nat.lt_of_lt_of_le (h.lt i hi) hF.size, h.room⟩
  · by_cases e : x = s
    · subst e; rw [hs] at hx; cases hx
    · simp only [e, if_false]; exact h.no x hx
  · obtain ⟨k', b1, rfl, h3, h4, h5, h6⟩ := h.yes x v hv
    by_cases e : x = s
    · subst e
      rw [hs] at hv
      simp only [Option.some.injEq, Value.pointer.injEq, Addr.mk.injEq, and_true] at hv
      subst hv
      exact ⟨k, b', rfl, by simp, hb, ok, h6⟩
    · have hne : k' ≠ k := fun e' => e (h.inj x s (ptr k) (by rw [hv, e']) hs)
      exact ⟨k', b1, rfl, by simp [e, h3], hF.obj h4 (by simpa using hne), h5, h6⟩

theorem TabO.fr {w w' : World} {t m : Nat} {f : ByteArray → Option Value} {T : ByteArray → Option Bk} {n : Nat} {F S : List Nat} (h : TabO w t m f T n F) (hF : Fr S w w') (hS : ∀ i ∈ F, i ∉ S) : TabO w' t m f T n F :=
  ⟨hF.obj h.tab (hS _ h.tF), h.map.fr hF (hS _ h.mF), h.tF, h.mF, h.no, fun s v hv => by
    obtain ⟨k, b, h1, h2, h3, h4, h5⟩ := h.yes s v hv
    exact ⟨k, b, h1, h2, hF.obj h3 (hS _ h5), h4, h5⟩, h.inj, fun i hi => Nat.lt_of_lt_of_le (h.lt i hi) hF.size, h.room⟩

theorem zero90 (w : World) : (zeroValue 90).run Try.prog w = .ok (.pointer none) w := by kernel_rfl

theorem TabO.look {w : World} {t m : Nat} {f : ByteArray → Option Value} {T : ByteArray → Option Bk} {n : Nat} {F : List Nat} (h : TabO w t m f T n F) (s : ByteArray) :
    (Instr.lookup 81 (.map (some m)) (.string s) false).run Try.prog w = .ok ((f s).getD (.pointer none)) w := h.map.lookup Try.underlying81 Try.underlying9 zero90 s false

theorem get_any {w : World} {t m : Nat} {f : ByteArray → Option Value} {T : ByteArray → Option Bk} {n : Nat} {F : List Nat} (h : TabO w t m f T n F) (s : ByteArray) :
    Calls Try.prog 47 #[ptr t, .string s] w fun e w' => e = .returned ((f s).getD (.pointer none)) ∧ w = w' := by
  have hl := h.look s
  have c0 : w.cell? ⟨t, 0, none⟩ = some (.map (some m)) := cell_of h.tab 0
  clear h
  go_enter Try.func47, Try.ntmps47
  go_wp2
  go_ret
  exact ⟨rfl, rfl⟩

theorem new_any (w : World) : Calls Try.prog 10 #[] w fun e w' => ∃ t m F, e = .returned (ptr t) ∧ TabO w' t m (fun _ => none) (fun _ => none) 0 F ∧ (∀ i ∈ F, w.heap.size ≤ i) ∧ Fr [] w w' := by
  have hmm := @run_makeMap Try.prog
  go_enter Try.func10, Try.ntmps10
  go_wp2
  go_ret
  refine ⟨w.heap.size + 1, w.heap.size, [w.heap.size + 1, w.heap.size], rfl, ?_, by simp, ((Fr.refl _ _).alloc _).alloc _⟩
  have h1 := heap_alloc (w.alloc (.map #[] 0)) (.cells #[.map (some w.heap.size)] 85)
  rw [size_alloc'] at h1
  exact ⟨h1, (MapAt.made w).fr ((Fr.refl [] _).alloc _) (by simp), by simp, by simp, fun _ _ => rfl, fun s v h => by simp at h, fun s s' v h => by simp at h, by simp; omega, by omega⟩

def good (cost now : Int) : Prop := 0 ≤ cost ∧ cost ≤ 1000000000 ∧ 0 ≤ now ∧ now ≤ 1125899906842624

theorem isTime_yes (n : Int) (w : World) (h0 : 0 ≤ n) (h1 : n ≤ 1125899906842624) : Calls Try.prog 37 #[.int .i64 n] w fun e w' => e = .returned (.bool true) ∧ w = w' := by
  go_enter Try.func37, Try.ntmps37
  go_wp2
  go_ret
  exact ⟨rfl, rfl⟩
theorem isTime_no (n : Int) (w : World) (h : n < 0 ∨ 1125899906842624 < n) : Calls Try.prog 37 #[.int .i64 n] w fun e w' => e = .returned (.bool false) ∧ w = w' := by
  rcases h with h | h
  · have h' : ¬ 0 ≤ n := by omega
    go_enter Try.func37, Try.ntmps37
    go_wp2
    go_ret
    exact ⟨rfl, rfl⟩
  · have h' : 0 ≤ n := by omega
    have h2 : ¬ n ≤ 1125899906842624 := by omega
    go_enter Try.func37, Try.ntmps37
    go_wp2
    go_ret
    exact ⟨rfl, rfl⟩

theorem at_nil (s : ByteArray) (c n : Int) (w : World) : Calls Try.prog 39 #[.pointer none, .string s, .int .i64 c, .int .i64 n] w fun e w' => e = .returned (.tuple #[.pointer none, .int .i64 2]) ∧ w = w' := by
  go_enter Try.func39, Try.ntmps39
  go_wp2
  go_ret2
  exact ⟨rfl, rfl⟩
theorem at_bad (t : Nat) (s : ByteArray) (c n : Int) (w : World) (h : ¬ good c n) : Calls Try.prog 39 #[ptr t, .string s, .int .i64 c, .int .i64 n] w fun e w' => e = .returned (.tuple #[.pointer none, .int .i64 1]) ∧ w = w' := by
  by_cases h1 : c < 0
  · clear h
    go_enter Try.func39, Try.ntmps39
    go_wp2_with fail
    go_ret2
    exact ⟨rfl, rfl⟩
  by_cases h2 : 1000000000 < c
  · clear h
    go_enter Try.func39, Try.ntmps39
    go_wp2_with fail
    go_ret2
    exact ⟨rfl, rfl⟩
  have h3 : n < 0 ∨ 1125899906842624 < n := by unfold good at h; omega
  clear h
  go_enter Try.func39, Try.ntmps39
  go_wp2_with (go_at_call 37; refine (isTime_no _ _ h3).mono ?_; rintro e w' ⟨rfl, rfl⟩)
  go_ret2
  exact ⟨rfl, rfl⟩
theorem at_none {w : World} {t m : Nat} {f : ByteArray → Option Value} {T : ByteArray → Option Bk} {n : Nat} {F : List Nat} (h : TabO w t m f T n F) (s : ByteArray) (c now : Int) (hg : good c now) (hs : f s = none) :
    Calls Try.prog 39 #[ptr t, .string s, .int .i64 c, .int .i64 now] w fun e w' => e = .returned (.tuple #[.pointer none, .int .i64 5]) ∧ w = w' := by
  have hget := get_any h s
  rw [hs] at hget
  have HG := Lib.hid hget
  obtain ⟨g1, g2, g3, g4⟩ := hg
  clear h hget hs
  go_enter Try.func39, Try.ntmps39
  go_wp2_with (first
    | (go_at_call 37; refine (isTime_yes _ _ g3 g4).mono ?_; rintro e w' ⟨rfl, rfl⟩)
    | (go_at_call 47; refine HG.out.mono ?_; rintro e w' ⟨rfl, rfl⟩))
  go_ret2
  exact ⟨rfl, rfl⟩
theorem at_some {w : World} {t m : Nat} {f : ByteArray → Option Value} {T : ByteArray → Option Bk} {n : Nat} {F : List Nat} (h : TabO w t m f T n F) (s : ByteArray) (c now : Int) (hg : good c now) (k : Nat) (b : Bk) (hs : f s = some (ptr k)) (hb : BkAt w k b) (ok : b.Ok) :
    Calls Try.prog 39 #[ptr t, .string s, .int .i64 c, .int .i64 now] w fun e w' => e = .returned (.tuple #[ptr k, .int .i64 0]) ∧ BkAt w' k (fillM b now) ∧ Fr [k] w w' := by
  have hget := get_any h s
  rw [hs] at hget
  have HG := Lib.hid hget
  obtain ⟨g1, g2, g3, g4⟩ := hg
  have HFL := Lib.hid (fill_any k b w hb ok now g3 g4)
  clear h hget hs
  go_enter Try.func39, Try.ntmps39
  go_wp2_with (first
    | (go_at_call 37; refine (isTime_yes _ _ g3 g4).mono ?_; rintro e w' ⟨rfl, rfl⟩)
    | (go_at_call 47; refine HG.out.mono ?_; rintro e w' ⟨rfl, rfl⟩)
    | (go_at_call 63; refine HFL.out.mono ?_; rintro e w' ⟨rfl, hb', hF⟩))
  go_ret2
  exact ⟨rfl, hb', hF⟩
end Go.Proofs.Ytoichcjlfpijeaa
