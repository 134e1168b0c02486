/- One call of both tables: Tokens, Next, Counts; any call. -/
import Derived.Test.YtoichcjlfpijeaaStep
namespace Go.Proofs.Ytoichcjlfpijeaa
open Go.RowKit Go.Bl

section
variable {w : World} {t r : Nat} {T1 T2 : ByteArray → Option Bk} {n1 n2 : Nat} {F G : List Nat}

set_option maxRecDepth 100000 in
set_option maxHeartbeats 4000000 in
theorem step_6 (h : Both w t r T1 n1 T2 n2 F G) (o : QOp) (hk : o.kind = 6) : Calls Try.prog 16 #[ptr t, ptr r, opv o] w (StepPost w t r T1 n1 T2 n2 F G o) := by
  have e1 : Hid (stepT T1 n1 o = fillT T1 o.name 0 o.now ∧ stepN T1 n1 o = n1 ∧ stepT T2 n2 o = fillT T2 o.name 0 o.now ∧ stepN T2 n2 o = n2) := by
    unfold stepT stepN; rw [hk]; exact ⟨rfl, rfl, rfl, rfl⟩
  have e2 : Hid (T1 = T2 → n1 = n2 → tokV T1 o.name o.now = tokV T2 o.name o.now ∧ tokE T1 o.name o.now = tokE T2 o.name o.now) := fun a _ => by rw [a]; exact ⟨rfl, rfl⟩
  obtain ⟨kind, name, rate, burst, cost, now⟩ := o
  dsimp only at hk e1 e2
  subst hk
  have hW : Hid (∀ {W : World}, Fr [] w W → Both W t r T1 n1 T2 n2 F G) := fun {W} hF => h.fr hF
  have HAP : Hid (∀ i ∈ G, i ∉ F) := fun i hi hf => h.apart i hf hi
  have HL : Hid (∀ i ∈ F ++ G, i < w.heap.size) := fun i hi => by
    rcases List.mem_append.1 hi with h1 | h1
    · exact h.tab.lt i h1
    · exact h.ref.lt i h1
  have nF : w.heap.size ∉ F := fun hm => by have := HL.out _ (List.mem_append_left _ hm); omega
  clear h
  show Calls Try.prog 16 #[ptr t, ptr r, .agg #[.int .i64 6, .string name, .int .i64 rate, .int .i64 burst, .int .i64 cost, .int .i64 now]] w _
  have hX := heap_alloc w (.cells #[.int .i64 6, .string name, .int .i64 rate, .int .i64 burst, .int .i64 cost, .int .i64 now] 29)
  have x1 : (w.alloc (.cells #[.int .i64 6, .string name, .int .i64 rate, .int .i64 burst, .int .i64 cost, .int .i64 now] 29)).cell? ⟨w.heap.size, 1, none⟩ = some (.string name) := cell_of hX 1
  have x5 : (w.alloc (.cells #[.int .i64 6, .string name, .int .i64 rate, .int .i64 burst, .int .i64 cost, .int .i64 now] 29)).cell? ⟨w.heap.size, 5, none⟩ = some (.int .i64 now) := cell_of hX 5
  have HX := Lib.hid (And.intro x1 x5)
  clear hX x1 x5
  go_enter Try.func16, Try.ntmps16
  go_wp2_with fail
  refine (tok_any (hW.out ((Fr.refl [] w).alloc _)).tab name now).mono ?_
  rintro e w1 ⟨rfl, hT1, hF1⟩
  have c1 := cell_fr hF1 HX.out.1 nF
  have c5 := cell_fr hF1 HX.out.2 nF
  go_wp2_with fail
  refine (rtok_any ((hW.out ((Fr.refl [] w).alloc _)).ref.fr hF1 HAP.out) name now).mono ?_
  rintro e w2 ⟨rfl, hR2, hF2⟩
  have HE := Lib.hid (left2_w ((Fr.refl [] w).alloc _) (left2_of (hW.out ((Fr.refl [] w).alloc _)) hT1 hF1 (fun i hi => .inl hi) hR2 hF2 (fun i hi => .inl hi)))
  clear hT1 hF1 hR2 hF2 c1 c5
  go_wp2
  all_goals
    go_ret
    refine ⟨⟨_, rfl, fun a b => by obtain ⟨q1, q2⟩ := e2.out a b; first | (rw [q1, q2]; simp) | simp_all⟩, ?_⟩
    rw [e1.out.1, e1.out.2.1, e1.out.2.2.1, e1.out.2.2.2]
    exact HE.out
set_option maxRecDepth 100000 in
set_option maxHeartbeats 4000000 in
theorem step_7 (h : Both w t r T1 n1 T2 n2 F G) (o : QOp) (hk : o.kind = 7) : Calls Try.prog 16 #[ptr t, ptr r, opv o] w (StepPost w t r T1 n1 T2 n2 F G o) := by
  have e1 : Hid (stepT T1 n1 o = fillT T1 o.name o.cost o.now ∧ stepN T1 n1 o = n1 ∧ stepT T2 n2 o = fillT T2 o.name o.cost o.now ∧ stepN T2 n2 o = n2) := by
    unfold stepT stepN; rw [hk]; exact ⟨rfl, rfl, rfl, rfl⟩
  have e2 : Hid (T1 = T2 → n1 = n2 → (nextR T1 o.name o.cost o.now).1 = (nextR T2 o.name o.cost o.now).1 ∧ (nextR T1 o.name o.cost o.now).2 = (nextR T2 o.name o.cost o.now).2) := fun a _ => by rw [a]; exact ⟨rfl, rfl⟩
  obtain ⟨kind, name, rate, burst, cost, now⟩ := o
  dsimp only at hk e1 e2
  subst hk
  have hW : Hid (∀ {W : World}, Fr [] w W → Both W t r T1 n1 T2 n2 F G) := fun {W} hF => h.fr hF
  have HAP : Hid (∀ i ∈ G, i ∉ F) := fun i hi hf => h.apart i hf hi
  have HL : Hid (∀ i ∈ F ++ G, i < w.heap.size) := fun i hi => by
    rcases List.mem_append.1 hi with h1 | h1
    · exact h.tab.lt i h1
    · exact h.ref.lt i h1
  have nF : w.heap.size ∉ F := fun hm => by have := HL.out _ (List.mem_append_left _ hm); omega
  clear h
  show Calls Try.prog 16 #[ptr t, ptr r, .agg #[.int .i64 7, .string name, .int .i64 rate, .int .i64 burst, .int .i64 cost, .int .i64 now]] w _
  have hX := heap_alloc w (.cells #[.int .i64 7, .string name, .int .i64 rate, .int .i64 burst, .int .i64 cost, .int .i64 now] 29)
  have x1 : (w.alloc (.cells #[.int .i64 7, .string name, .int .i64 rate, .int .i64 burst, .int .i64 cost, .int .i64 now] 29)).cell? ⟨w.heap.size, 1, none⟩ = some (.string name) := cell_of hX 1
  have x5 : (w.alloc (.cells #[.int .i64 7, .string name, .int .i64 rate, .int .i64 burst, .int .i64 cost, .int .i64 now] 29)).cell? ⟨w.heap.size, 5, none⟩ = some (.int .i64 now) := cell_of hX 5
  have x4 : (w.alloc (.cells #[.int .i64 7, .string name, .int .i64 rate, .int .i64 burst, .int .i64 cost, .int .i64 now] 29)).cell? ⟨w.heap.size, 4, none⟩ = some (.int .i64 cost) := cell_of hX 4
  have HX := Lib.hid (And.intro x1 (And.intro x5 x4))
  clear hX x1 x5 x4
  go_enter Try.func16, Try.ntmps16
  go_wp2_with fail
  refine (next_any (hW.out ((Fr.refl [] w).alloc _)).tab name cost now).mono ?_
  rintro e w1 ⟨rfl, hT1, hF1⟩
  have c1 := cell_fr hF1 HX.out.1 nF
  have c5 := cell_fr hF1 HX.out.2.1 nF
  have c4 := cell_fr hF1 HX.out.2.2 nF
  go_wp2_with fail
  refine (rnext_any ((hW.out ((Fr.refl [] w).alloc _)).ref.fr hF1 HAP.out) name cost now).mono ?_
  rintro e w2 ⟨rfl, hR2, hF2⟩
  have HE := Lib.hid (left2_w ((Fr.refl [] w).alloc _) (left2_of (hW.out ((Fr.refl [] w).alloc _)) hT1 hF1 (fun i hi => .inl hi) hR2 hF2 (fun i hi => .inl hi)))
  clear hT1 hF1 hR2 hF2 c1 c5 c4
  go_wp2
  all_goals
    go_ret
    refine ⟨⟨_, rfl, fun a b => by obtain ⟨q1, q2⟩ := e2.out a b; first | (rw [q1, q2]; simp) | simp_all⟩, ?_⟩
    rw [e1.out.1, e1.out.2.1, e1.out.2.2.1, e1.out.2.2.2]
    exact HE.out

set_option maxRecDepth 100000 in
set_option maxHeartbeats 4000000 in
theorem step_9 (h : Both w t r T1 n1 T2 n2 F G) (o : QOp) (hk : o.kind < 0 ∨ 8 < o.kind) : Calls Try.prog 16 #[ptr t, ptr r, opv o] w (StepPost w t r T1 n1 T2 n2 F G o) := by
  have e1 : Hid (stepT T1 n1 o = T1 ∧ stepN T1 n1 o = n1 ∧ stepT T2 n2 o = T2 ∧ stepN T2 n2 o = n2) := by
    unfold stepT stepN
    refine ⟨?_, ?_, ?_, ?_⟩ <;> (repeat rw [if_neg (by omega)])
  have e2 : Hid (T1 = T2 → n1 = n2 → (cntV T1 o.name).1 = (cntV T2 o.name).1 ∧ (cntV T1 o.name).2.1 = (cntV T2 o.name).2.1 ∧ (cntV T1 o.name).2.2 = (cntV T2 o.name).2.2 ∧ cntE T1 o.name = cntE T2 o.name) := fun a _ => by rw [a]; exact ⟨rfl, rfl, rfl, rfl⟩
  obtain ⟨kind, name, rate, burst, cost, now⟩ := o
  dsimp only at hk e1 e2
  have hW : Hid (∀ {W : World}, Fr [] w W → Both W t r T1 n1 T2 n2 F G) := fun {W} hF => h.fr hF
  clear h
  show Calls Try.prog 16 #[ptr t, ptr r, .agg #[.int .i64 kind, .string name, .int .i64 rate, .int .i64 burst, .int .i64 cost, .int .i64 now]] w _
  have hX := heap_alloc w (.cells #[.int .i64 kind, .string name, .int .i64 rate, .int .i64 burst, .int .i64 cost, .int .i64 now] 29)
  have HX : Hid ((w.alloc (.cells #[.int .i64 kind, .string name, .int .i64 rate, .int .i64 burst, .int .i64 cost, .int .i64 now] 29)).cell? ⟨w.heap.size, 1, none⟩ = some (.string name)) := cell_of hX 1
  clear hX
  have k0 : (kind == 0) = false := by simp; omega
  have k1 : (kind == 1) = false := by simp; omega
  have k2 : (kind == 2) = false := by simp; omega
  have k3 : (kind == 3) = false := by simp; omega
  have k4 : (kind == 4) = false := by simp; omega
  have k5 : (kind == 5) = false := by simp; omega
  have k6 : (kind == 6) = false := by simp; omega
  have k7 : (kind == 7) = false := by simp; omega
  have k8 : (kind == 8) = false := by simp; omega
  clear hk
  go_enter Try.func16, Try.ntmps16
  go_wp2_with fail
  refine (cnt_any (hW.out ((Fr.refl [] w).alloc _)).tab name).mono ?_
  rintro e w1 ⟨rfl, hT1, hF1⟩
  have c1 := cell_fr hF1 HX.out (by simp)
  have hlt := World.block_lt_of_cell? w1 _ c1
  dsimp only at hlt
  go_wp2_with fail
  refine (rcnt_any ((hW.out ((Fr.refl [] w).alloc _)).ref.fr (hF1.alloc _) (fun _ _ => by simp)) name).mono ?_
  rintro e w2 ⟨rfl, hR2, hF2⟩
  have hzz := hF2.size
  rw [size_alloc'] at hzz
  have y := hF2.obj (heap_alloc w1 _) (by simp)
  have y0 := cell_of y 0
  have y1 := cell_of y 1
  have y2 := cell_of y 2
  have hlt2 := lt_of_obj y
  have z0 : w2.cell? ⟨w1.heap.size, 0, none⟩ = some (.int .i64 (cntV T1 name).1) := y0
  have z1 : w2.cell? ⟨w1.heap.size, 1, none⟩ = some (.int .i64 (cntV T1 name).2.1) := y1
  have z2 : w2.cell? ⟨w1.heap.size, 2, none⟩ = some (.int .i64 (cntV T1 name).2.2) := y2
  have hb : Both w2 t r T1 n1 T2 n2 F G := ⟨(hT1.fr ((Fr.refl [] w1).alloc _) (fun _ _ => by simp)).fr hF2 (fun _ _ => by simp), hR2, (hW.out (Fr.refl [] w)).apart⟩
  have hfr : Fr [] w w2 := (((Fr.refl [] w).alloc _).trans hF1).trans (((Fr.refl [] w1).alloc _).trans hF2)
  have HE : Hid (∀ {w3 : World}, Fr [] w2 w3 → Left2 w w3 t r T1 n1 T2 n2 F G) := fun {w3} h3 => ⟨⟨F, G, hb.fr h3, fun i hi => .inl hi, fun i hi => .inl hi⟩, (hfr.trans h3).mono (by simp)⟩
  clear hT1 hF1 hR2 hF2 c1 y y0 y1 y2 hb hfr hzz
  go_wp2
  all_goals
    go_ret
    refine ⟨⟨_, rfl, fun a b => by obtain ⟨q1, q2, q3, q4⟩ := e2.out a b; first | (rw [q1, q2, q3, q4]; simp) | simp_all⟩, ?_⟩
    rw [e1.out.1, e1.out.2.1, e1.out.2.2.1, e1.out.2.2.2]
    exact HE.out ((Fr.refl _ _).alloc _)

theorem step_any (h : Both w t r T1 n1 T2 n2 F G) (o : QOp) : Calls Try.prog 16 #[ptr t, ptr r, opv o] w (StepPost w t r T1 n1 T2 n2 F G o) := by
  by_cases k0 : o.kind = 0
  · exact step_0 h o k0
  by_cases k1 : o.kind = 1
  · exact step_1 h o k1
  by_cases k2 : o.kind = 2
  · exact step_2 h o k2
  by_cases k3 : o.kind = 3
  · exact step_3 h o k3
  by_cases k4 : o.kind = 4
  · exact step_4 h o k4
  by_cases k5 : o.kind = 5
  · exact step_5 h o k5
  by_cases k6 : o.kind = 6
  · exact step_6 h o k6
  by_cases k7 : o.kind = 7
  · exact step_7 h o k7
  by_cases k8 : o.kind = 8
  · exact step_8 h o k8
  exact step_9 h o (by omega)
end
end Go.Proofs.Ytoichcjlfpijeaa
