/- The cache laws: step at the other kinds; the fixed calls. -/
import Derived.Test.YtoichcjlfpijeaaCStep
namespace Go.Proofs.Ytoichcjlfpijeaa
open Go.RowKit Go.Bl

section
variable {w : World} {c r : Nat} {most : Int} {M : ByteArray → Option (List Ent1)} {C : ByteArray → Int × Int} {F : List Nat}
theorem stepc_o (h : Cc w c most M C F) (o : COp) (h0 : o.kind ≠ 0) (h1 : o.kind ≠ 1) (h2 : o.kind ≠ 2) (h3 : o.kind ≠ 3) (h4 : o.kind ≠ 4) (h5 : o.kind ≠ 5) : Calls Try.prog 20 #[pp c, pp r, o.agg] w (StepP w c r most M C F o.t) := by
  obtain ⟨kind, t, k, s, x⟩ := o
  dsimp only at h0 h1 h2 h3 h4 h5
  have HC : Hid (StepP w c r most M C F t (.returned (.bool true)) (w.alloc (.cells #[.int .i64 kind, .string t, .string k, .string s, .string x] 52))) :=
    ⟨⟨_, rfl⟩, M, C, F, h.fr ((Fr.refl [] w).alloc _) (by simp), fun i hi => .inl hi, (Fr.refl _ w).alloc _, fun _ _ => ⟨rfl, rfl⟩⟩
  have x0 : (w.alloc (.cells #[.int .i64 kind, .string t, .string k, .string s, .string x] 52)).cell? ⟨w.heap.size, 0, none⟩ = some (.int .i64 kind) := cell_of (heap_alloc w (.cells #[.int .i64 kind, .string t, .string k, .string s, .string x] 52)) 0
  have q0 : (kind == 0) = false := by simpa using h0
  have q1 : (kind == 1) = false := by simpa using h1
  have q2 : (kind == 2) = false := by simpa using h2
  have q3 : (kind == 3) = false := by simpa using h3
  have q4 : (kind == 4) = false := by simpa using h4
  have q5 : (kind == 5) = false := by simpa using h5
  clear h h0 h1 h2 h3 h4 h5
  show Calls Try.prog 20 #[pp c, pp r, .agg #[.int .i64 kind, .string t, .string k, .string s, .string x]] w (StepP w c r most M C F t)
  go_enter Try.func20, Try.ntmps20
  go_wp2
  go_ret
  exact HC.out
theorem stepc_any (h : Cc w c most M C F) (hr : R0 w r) (hrF : r ∉ F) (o : COp) (h5 : o.kind ≠ 5) {K : List ByteArray} (hK : ∀ u, M u ≠ none → u ∈ K) (hl : K.length < 16) : Calls Try.prog 20 #[pp c, pp r, o.agg] w (StepP w c r most M C F o.t) := by
  by_cases h0 : o.kind = 0
  · exact stepc_0 h hr hrF o h0 hK hl
  by_cases h1 : o.kind = 1
  · exact stepc_1 h hr hrF o h1 hK hl
  by_cases h2 : o.kind = 2
  · exact stepc_2 h hr hrF o h2
  by_cases h3 : o.kind = 3
  · exact stepc_3 h hr hrF o h3
  by_cases h4 : o.kind = 4
  · exact stepc_4 h hr hrF o h4
  exact stepc_o h o h0 h1 h2 h3 h4 h5
end

theorem upd_at (M : ByteArray → Option (List Ent1)) (t : ByteArray) (v : Option (List Ent1)) : upd M t v t = v := if_pos rfl
def sa : ByteArray := ⟨#[97]⟩
def sx : ByteArray := ⟨#[120]⟩
def sy : ByteArray := ⟨#[121]⟩
def sz : ByteArray := ⟨#[122]⟩
def s1 : ByteArray := ⟨#[49]⟩
def s2 : ByteArray := ⟨#[50]⟩
def sX : ByteArray := ⟨#[88]⟩
def sY : ByteArray := ⟨#[89]⟩
def sZ : ByteArray := ⟨#[90]⟩
def o1 := putL none sx s1 sX 2
def o2 := putL o1 sy s1 sY 2
def o3 := getL o2 sx s1
def o4 := putL o3 sz s1 sZ 2
def o5 := getL o4 sy s1
def o6 := getL o5 sx s2
theorem ck1 : oT (getH o2 sx s1) = ⟨#[88]⟩ := by decide +kernel
theorem ck2 : (getH o2 sx s1).isSome = true := by decide +kernel
theorem ck3 : (getH o4 sy s1).isSome = false := by decide +kernel
theorem ck4 : (getH o5 sx s2).isSome = false := by decide +kernel
theorem ck5 : lenL o6 = 1 := by decide +kernel
theorem upd_sup {M : ByteArray → Option (List Ent1)} {t : ByteArray} {v : Option (List Ent1)} {K : List ByteArray} (h : ∀ u, M u ≠ none → u ∈ K) (ht : t ∈ K) : ∀ u, upd M t v u ≠ none → u ∈ K := by
  intro u hu
  by_cases e : u = t
  · rw [e]; exact ht
  · rw [upd_ne e] at hu; exact h u hu

/-- A cache of one's own in which one tenant has something. -/
def K0 (w0 w : World) (c : Nat) (o : Option (List Ent1)) : Prop := ∃ M C F, Cc w c 2 M C F ∧ M sa = o ∧ (∀ u, M u ≠ none → u ∈ [sa]) ∧ Fr [] w0 w ∧ ∀ i ∈ F, w0.heap.size ≤ i
theorem k0_kept {w0 w w' : World} {c : Nat} {M : ByteArray → Option (List Ent1)} {C' : ByteArray → Int × Int} {F : List Nat} {v : Option (List Ent1)} (h : Kept w c 2 (upd M sa v) C' F w') (hK : ∀ u, M u ≠ none → u ∈ [sa]) (hF : Fr [] w0 w) (hB : ∀ i ∈ F, w0.heap.size ≤ i) : K0 w0 w' c v := by
  obtain ⟨⟨F', hC, hs⟩, hF4⟩ := h
  refine ⟨_, _, F', hC, upd_at _ _ _, upd_sup hK (List.mem_singleton_self sa), hF.new hF4 hB, fun i hi => ?_⟩
  rcases hs i hi with h1 | h1
  · exact hB i h1
  · exact Nat.le_trans hF.size h1
theorem k_put {w0 w : World} {c : Nat} {o : Option (List Ent1)} (h : K0 w0 w c o) (k s x : ByteArray) : Calls Try.prog 22 #[pp c, .string sa, .string k, .string s, .string x] w fun e w' => e = .returned (.int .i64 (putR k x)) ∧ K0 w0 w' c (putL o k s x 2) := by
  obtain ⟨M, C, F, h, ho, hK, hF, hB⟩ := h
  refine (put_any2 h sa k s x hK (by decide)).mono ?_
  rintro e w' ⟨rfl, hk⟩
  rw [ho] at hk
  exact ⟨rfl, k0_kept hk hK hF hB⟩
theorem k_get {w0 w : World} {c : Nat} {o : Option (List Ent1)} (h : K0 w0 w c o) (k s : ByteArray) : Calls Try.prog 21 #[pp c, .string sa, .string k, .string s] w fun e w' => e = .returned (.tuple #[.string (oT (getH o k s)), .bool (getH o k s).isSome]) ∧ K0 w0 w' c (getL o k s) := by
  obtain ⟨M, C, F, h, ho, hK, hF, hB⟩ := h
  refine (get_any2 h sa k s).mono ?_
  rintro e w' ⟨rfl, hk⟩
  rw [ho] at hk ⊢
  exact ⟨rfl, k0_kept hk hK hF hB⟩
theorem k_len {w0 w : World} {c : Nat} {o : Option (List Ent1)} (h : K0 w0 w c o) : Calls Try.prog 24 #[pp c, .string sa] w fun e w' => e = .returned (.int .i64 (lenL o)) ∧ w = w' := by
  obtain ⟨M, C, F, h, ho, hK, hF, hB⟩ := h
  rw [← ho]
  exact len_any2 h sa

set_option maxRecDepth 100000 in
set_option maxHeartbeats 4000000 in
theorem known_c (w : World) : Calls Try.prog 19 #[] w fun e w' => e = .returned (.bool true) ∧ Fr [] w w' := by
  go_enter Try.func19, Try.ntmps19
  go_wp2_with fail
  refine (cnew_ok 2 (by decide) (by decide) w).mono ?_
  rintro e w1 ⟨c, F1, rfl, h1, hF1, hB1⟩
  have H1 : Hid (K0 w w1 c none) := ⟨_, _, F1, ⟨_, h1⟩, rfl, fun u hu => absurd rfl hu, hF1, hB1⟩
  clear h1 hF1 hB1
  go_wp2_with fail
  refine (k_put H1.out sx s1 sX).mono ?_
  rintro e w2 ⟨rfl, hk⟩
  have H2 : Hid (K0 w w2 c o1) := hk
  clear hk
  go_wp2_with fail
  refine (k_put H2.out sy s1 sY).mono ?_
  rintro e w3 ⟨rfl, hk⟩
  have H3 : Hid (K0 w w3 c o2) := hk
  clear hk
  have g3 := k_get H3.out sx s1
  rw [ck1, ck2] at g3
  have G3 := Lib.hid g3
  clear g3
  go_wp2_with fail
  refine G3.out.mono ?_
  rintro e w4 ⟨rfl, hk⟩
  have H4 : Hid (K0 w w4 c o3) := hk
  clear hk
  go_wp2_with fail
  refine (k_put H4.out sz s1 sZ).mono ?_
  rintro e w5 ⟨rfl, hk⟩
  have H5 : Hid (K0 w w5 c o4) := hk
  clear hk
  have g5 := k_get H5.out sy s1
  rw [ck3] at g5
  obtain ⟨r5, hr5⟩ : ∃ r, oT (getH o4 sy s1) = r := ⟨_, rfl⟩
  rw [hr5] at g5
  clear hr5
  have G5 := Lib.hid g5
  clear g5
  go_wp2_with fail
  refine G5.out.mono ?_
  rintro e w6 ⟨rfl, hk⟩
  have H6 : Hid (K0 w w6 c o5) := hk
  clear hk
  have g6 := k_get H6.out sx s2
  rw [ck4] at g6
  obtain ⟨r6, hr6⟩ : ∃ r, oT (getH o5 sx s2) = r := ⟨_, rfl⟩
  rw [hr6] at g6
  clear hr6
  have G6 := Lib.hid g6
  clear g6
  go_wp2_with fail
  refine G6.out.mono ?_
  rintro e w7 ⟨rfl, hk⟩
  have H7 : Hid (K0 w w7 c o6) := hk
  clear hk
  have g7 := k_len H7.out
  rw [ck5] at g7
  have G7 := Lib.hid g7
  clear g7
  go_wp2_with (go_at_call 24; refine G7.out.mono ?_; rintro e w8 ⟨rfl, rfl⟩)
  go_ret
  obtain ⟨_, _, _, _, _, _, hF, _⟩ := H7.out
  exact ⟨rfl, hF⟩
end Go.Proofs.Ytoichcjlfpijeaa
