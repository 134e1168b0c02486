/- One call of both tables. -/
import Derived.Test.YtoichcjlfpijeaaRAll
import Derived.Test.YtoichcjlfpijeaaQOpsAt
namespace Go.Proofs.Ytoichcjlfpijeaa
open Go.RowKit Go.Bl

def stepT (T : ByteArray → Option Bk) (n : Nat) (o : QOp) : ByteArray → Option Bk :=
  if o.kind = 0 then setS T n o.name o.rate o.burst o.now else
  if o.kind = 1 ∨ o.kind = 2 ∨ o.kind = 3 ∨ o.kind = 4 then takeT T o.name o.cost o.now else
  if o.kind = 5 then giveT T o.name o.cost o.now else
  if o.kind = 6 then fillT T o.name 0 o.now else
  if o.kind = 7 then fillT T o.name o.cost o.now else
  if o.kind = 8 then setT T o.name none else T
def stepN (T : ByteArray → Option Bk) (n : Nat) (o : QOp) : Nat :=
  if o.kind = 0 then setN T n o.name o.rate o.burst o.now else
  if o.kind = 8 then dropN T n o.name else n

def opv (o : QOp) : Value := .agg #[.int .i64 o.kind, .string o.name, .int .i64 o.rate, .int .i64 o.burst, .int .i64 o.cost, .int .i64 o.now]

structure Both (w : World) (t r : Nat) (T1 : ByteArray → Option Bk) (n1 : Nat) (T2 : ByteArray → Option Bk) (n2 : Nat) (F G : List Nat) : Prop where
  tab : Tab w t T1 n1 F
  ref : RT w r T2 n2 G
  apart : ∀ i ∈ F, i ∉ G

theorem Both.fr {w w' : World} {t r : Nat} {T1 : ByteArray → Option Bk} {n1 : Nat} {T2 : ByteArray → Option Bk} {n2 : Nat} {F G : List Nat} (h : Both w t r T1 n1 T2 n2 F G) (hF : Fr [] w w') : Both w' t r T1 n1 T2 n2 F G :=
  ⟨h.tab.fr hF (fun _ _ => by simp), h.ref.fr hF (fun _ _ => by simp), h.apart⟩

/-- What a call of both leaves. -/
structure Left2 (w w' : World) (t r : Nat) (T1 : ByteArray → Option Bk) (n1 : Nat) (T2 : ByteArray → Option Bk) (n2 : Nat) (F G : List Nat) : Prop where
  ex : ∃ F' G', Both w' t r T1 n1 T2 n2 F' G' ∧ (∀ i ∈ F', i ∈ F ∨ w.heap.size ≤ i) ∧ (∀ i ∈ G', i ∈ G ∨ w.heap.size ≤ i)
  fr : Fr (F ++ G) w w'

theorem left2_of {w w1 w2 : World} {t r : Nat} {T1 T1' T2 T2' : ByteArray → Option Bk} {n1 n1' n2 n2' : Nat} {F G F' G' : List Nat} (h : Both w t r T1 n1 T2 n2 F G) (hT : Tab w1 t T1' n1' F') (hF1 : Fr F w w1) (hB1 : ∀ i ∈ F', i ∈ F ∨ w.heap.size ≤ i)
    (hR : RT w2 r T2' n2' G') (hF2 : Fr G w1 w2) (hB2 : ∀ i ∈ G', i ∈ G ∨ w1.heap.size ≤ i) : Left2 w w2 t r T1' n1' T2' n2' F G := by
  have hz := hF1.size
  have hap : ∀ i ∈ F', i ∉ G := fun i hi hg => by
    rcases hB1 i hi with h1 | h1
    · exact h.apart i h1 hg
    · have := h.ref.lt i hg; omega
  refine ⟨⟨F', G', ⟨hT.fr hF2 hap, hR, fun i hi hg => ?_⟩, hB1, fun i hi => ?_⟩, (hF1.mono (by simp +contextual)).trans (hF2.mono (by simp +contextual))⟩
  · rcases hB2 i hg with h1 | h1
    · exact hap i hi h1
    · have := hT.lt i hi; omega
  · rcases hB2 i hi with h1 | h1
    · exact .inl h1
    · exact .inr (by omega)

theorem left2_w {w w0 w2 : World} {t r : Nat} {T1' T2' : ByteArray → Option Bk} {n1' n2' : Nat} {F G : List Nat} (hF : Fr [] w w0) (h : Left2 w0 w2 t r T1' n1' T2' n2' F G) : Left2 w w2 t r T1' n1' T2' n2' F G := by
  obtain ⟨F', G', hb, h1, h2⟩ := h.ex
  have hz := hF.size
  exact ⟨⟨F', G', hb, fun i hi => (h1 i hi).imp id (by omega), fun i hi => (h2 i hi).imp id (by omega)⟩, (hF.mono (by simp)).trans h.fr⟩

def StepPost (w : World) (t r : Nat) (T1 : ByteArray → Option Bk) (n1 : Nat) (T2 : ByteArray → Option Bk) (n2 : Nat) (F G : List Nat) (o : QOp) (e : Ending) (w' : World) : Prop :=
  (∃ b, e = .returned (.bool b) ∧ (T1 = T2 → n1 = n2 → b = true)) ∧ Left2 w w' t r (stepT T1 n1 o) (stepN T1 n1 o) (stepT T2 n2 o) (stepN T2 n2 o) F G

section
variable {w : World} {t r : Nat} {T1 T2 : ByteArray → Option Bk} {n1 n2 : Nat} {F G : List Nat}

set_option maxRecDepth 100000 in
set_option maxHeartbeats 4000000 in
theorem step_0 (h : Both w t r T1 n1 T2 n2 F G) (o : QOp) (hk : o.kind = 0) : Calls Try.prog 16 #[ptr t, ptr r, opv o] w (StepPost w t r T1 n1 T2 n2 F G o) := by
  have e1 : Hid (stepT T1 n1 o = setS T1 n1 o.name o.rate o.burst o.now ∧ stepN T1 n1 o = setN T1 n1 o.name o.rate o.burst o.now ∧ stepT T2 n2 o = setS T2 n2 o.name o.rate o.burst o.now ∧ stepN T2 n2 o = setN T2 n2 o.name o.rate o.burst o.now) := by
    unfold stepT stepN; rw [hk]; exact ⟨rfl, rfl, rfl, rfl⟩
  have e2 : Hid (T1 = T2 → n1 = n2 → setR T1 n1 o.name o.rate o.burst o.now = setR T2 n2 o.name o.rate o.burst o.now) := fun a b => by rw [a, b]
  obtain ⟨kind, name, rate, burst, cost, now⟩ := o
  dsimp only at hk e1 e2
  subst hk
  have hW : Hid (∀ {W : World}, Fr [] w W → Both W t r T1 n1 T2 n2 F G) := fun {W} hF => h.fr hF
  have HAP : Hid (∀ i ∈ G, i ∉ F) := fun i hi hf => h.apart i hf hi
  have HL : Hid (∀ i ∈ F ++ G, i < w.heap.size) := fun i hi => by
    rcases List.mem_append.1 hi with h1 | h1
    · exact h.tab.lt i h1
    · exact h.ref.lt i h1
  have nF : w.heap.size ∉ F := fun hm => by have := HL.out _ (List.mem_append_left _ hm); omega
  have nG : w.heap.size ∉ G := fun hm => by have := HL.out _ (List.mem_append_right _ hm); omega
  clear h
  show Calls Try.prog 16 #[ptr t, ptr r, .agg #[.int .i64 0, .string name, .int .i64 rate, .int .i64 burst, .int .i64 cost, .int .i64 now]] w _
  go_enter Try.func16, Try.ntmps16
  go_wp2
  go_region_held3 (fun w' => w'.cell? ⟨w.heap.size, 1, none⟩ = some (.string name) ∧ w'.cell? ⟨w.heap.size, 2, none⟩ = some (.int .i64 rate) ∧ w'.cell? ⟨w.heap.size, 3, none⟩ = some (.int .i64 burst) ∧ w'.cell? ⟨w.heap.size, 5, none⟩ = some (.int .i64 now))
    (first
      | go_keep
      | (go_split_ands; exact ⟨cell_fr hF2 (by assumption) nG, cell_fr hF2 (by assumption) nG, cell_fr hF2 (by assumption) nG, cell_fr hF2 (by assumption) nG⟩)
      | (go_split_ands; exact ⟨cell_fr hF1 (by assumption) nF, cell_fr hF1 (by assumption) nF, cell_fr hF1 (by assumption) nF, cell_fr hF1 (by assumption) nF⟩))
    (first
      | (go_at_call 11; refine (set_any (hW.out (((Fr.refl [] w).alloc _).drew)).tab name rate burst now).mono ?_; rintro e w1 ⟨rfl, hF1, F1, hT1, hB1⟩)
      | (go_at_call 40; refine (rset_any ((hW.out (((Fr.refl [] w).alloc _).drew)).ref.fr hF1 HAP.out) name rate burst now).mono ?_; rintro e w2 ⟨rfl, hF2, G2, hR2, hB2⟩))
  go_wp2
  go_ret
  refine ⟨⟨_, rfl, fun a b => by simpa using e2.out a b⟩, ?_⟩
  rw [e1.out.1, e1.out.2.1, e1.out.2.2.1, e1.out.2.2.2]
  exact left2_w (((Fr.refl [] w).alloc (.cells #[.int .i64 0, .string name, .int .i64 rate, .int .i64 burst, .int .i64 cost, .int .i64 now] 29)).drew) (left2_of (hW.out (((Fr.refl [] w).alloc _).drew)) hT1 hF1 hB1 hR2 hF2 hB2)

set_option maxRecDepth 100000 in
set_option maxHeartbeats 4000000 in
theorem step_1 (h : Both w t r T1 n1 T2 n2 F G) (o : QOp) (hk : o.kind = 1) : Calls Try.prog 16 #[ptr t, ptr r, opv o] w (StepPost w t r T1 n1 T2 n2 F G o) := by
  have e1 : Hid (stepT T1 n1 o = takeT T1 o.name o.cost o.now ∧ stepN T1 n1 o = n1 ∧ stepT T2 n2 o = takeT T2 o.name o.cost o.now ∧ stepN T2 n2 o = n2) := by
    unfold stepT stepN; rw [hk]; exact ⟨rfl, rfl, rfl, rfl⟩
  have e2 : Hid (T1 = T2 → n1 = n2 → takeR T1 o.name o.cost o.now = takeR T2 o.name o.cost o.now) := fun a b => by rw [a]
  obtain ⟨kind, name, rate, burst, cost, now⟩ := o
  dsimp only at hk e1 e2
  subst hk
  have hW : Hid (∀ {W : World}, Fr [] w W → Both W t r T1 n1 T2 n2 F G) := fun {W} hF => h.fr hF
  have HAP : Hid (∀ i ∈ G, i ∉ F) := fun i hi hf => h.apart i hf hi
  have HL : Hid (∀ i ∈ F ++ G, i < w.heap.size) := fun i hi => by
    rcases List.mem_append.1 hi with h1 | h1
    · exact h.tab.lt i h1
    · exact h.ref.lt i h1
  have nF : w.heap.size ∉ F := fun hm => by have := HL.out _ (List.mem_append_left _ hm); omega
  have nG : w.heap.size ∉ G := fun hm => by have := HL.out _ (List.mem_append_right _ hm); omega
  clear h
  show Calls Try.prog 16 #[ptr t, ptr r, .agg #[.int .i64 1, .string name, .int .i64 rate, .int .i64 burst, .int .i64 cost, .int .i64 now]] w _
  go_enter Try.func16, Try.ntmps16
  go_wp2
  go_region_held3 (fun w' => w'.cell? ⟨w.heap.size, 1, none⟩ = some (.string name) ∧ w'.cell? ⟨w.heap.size, 4, none⟩ = some (.int .i64 cost) ∧ w'.cell? ⟨w.heap.size, 5, none⟩ = some (.int .i64 now))
    (first
      | go_keep
      | (go_split_ands; exact ⟨cell_fr hF2 (by assumption) nG, cell_fr hF2 (by assumption) nG, cell_fr hF2 (by assumption) nG⟩)
      | (go_split_ands; exact ⟨cell_fr hF1 (by assumption) nF, cell_fr hF1 (by assumption) nF, cell_fr hF1 (by assumption) nF⟩))
    (first
      | (go_at_call 13; refine (take_any (hW.out (((Fr.refl [] w).alloc _).drew)).tab name cost now).mono ?_; rintro e w1 ⟨rfl, hT1, hF1⟩)
      | (go_at_call 41; refine (rtake_any ((hW.out (((Fr.refl [] w).alloc _).drew)).ref.fr hF1 HAP.out) name cost now).mono ?_; rintro e w2 ⟨rfl, hR2, hF2⟩))
  go_wp2
  go_ret
  refine ⟨⟨_, rfl, fun a b => by simpa using e2.out a b⟩, ?_⟩
  rw [e1.out.1, e1.out.2.1, e1.out.2.2.1, e1.out.2.2.2]
  exact left2_w (((Fr.refl [] w).alloc (.cells #[.int .i64 1, .string name, .int .i64 rate, .int .i64 burst, .int .i64 cost, .int .i64 now] 29)).drew) (left2_of (hW.out (((Fr.refl [] w).alloc _).drew)) hT1 hF1 (fun i hi => .inl hi) hR2 hF2 (fun i hi => .inl hi))

set_option maxRecDepth 100000 in
set_option maxHeartbeats 4000000 in
theorem step_2 (h : Both w t r T1 n1 T2 n2 F G) (o : QOp) (hk : o.kind = 2) : Calls Try.prog 16 #[ptr t, ptr r, opv o] w (StepPost w t r T1 n1 T2 n2 F G o) := by
  have e1 : Hid (stepT T1 n1 o = takeT T1 o.name o.cost o.now ∧ stepN T1 n1 o = n1 ∧ stepT T2 n2 o = takeT T2 o.name o.cost o.now ∧ stepN T2 n2 o = n2) := by
    unfold stepT stepN; rw [hk]; exact ⟨rfl, rfl, rfl, rfl⟩
  have e2 : Hid (T1 = T2 → n1 = n2 → takeR T1 o.name o.cost o.now = takeR T2 o.name o.cost o.now) := fun a b => by rw [a]
  obtain ⟨kind, name, rate, burst, cost, now⟩ := o
  dsimp only at hk e1 e2
  subst hk
  have hW : Hid (∀ {W : World}, Fr [] w W → Both W t r T1 n1 T2 n2 F G) := fun {W} hF => h.fr hF
  have HAP : Hid (∀ i ∈ G, i ∉ F) := fun i hi hf => h.apart i hf hi
  have HL : Hid (∀ i ∈ F ++ G, i < w.heap.size) := fun i hi => by
    rcases List.mem_append.1 hi with h1 | h1
    · exact h.tab.lt i h1
    · exact h.ref.lt i h1
  have nF : w.heap.size ∉ F := fun hm => by have := HL.out _ (List.mem_append_left _ hm); omega
  have nG : w.heap.size ∉ G := fun hm => by have := HL.out _ (List.mem_append_right _ hm); omega
  clear h
  show Calls Try.prog 16 #[ptr t, ptr r, .agg #[.int .i64 2, .string name, .int .i64 rate, .int .i64 burst, .int .i64 cost, .int .i64 now]] w _
  go_enter Try.func16, Try.ntmps16
  go_wp2
  go_region_held3 (fun w' => w'.cell? ⟨w.heap.size, 1, none⟩ = some (.string name) ∧ w'.cell? ⟨w.heap.size, 4, none⟩ = some (.int .i64 cost) ∧ w'.cell? ⟨w.heap.size, 5, none⟩ = some (.int .i64 now))
    (first
      | go_keep
      | (go_split_ands; exact ⟨cell_fr hF2 (by assumption) nG, cell_fr hF2 (by assumption) nG, cell_fr hF2 (by assumption) nG⟩)
      | (go_split_ands; exact ⟨cell_fr hF1 (by assumption) nF, cell_fr hF1 (by assumption) nF, cell_fr hF1 (by assumption) nF⟩))
    (first
      | (go_at_call 13; refine (take_any (hW.out (((Fr.refl [] w).alloc _).drew)).tab name cost now).mono ?_; rintro e w1 ⟨rfl, hT1, hF1⟩)
      | (go_at_call 41; refine (rtake_any ((hW.out (((Fr.refl [] w).alloc _).drew)).ref.fr hF1 HAP.out) name cost now).mono ?_; rintro e w2 ⟨rfl, hR2, hF2⟩))
  go_wp2
  go_ret
  refine ⟨⟨_, rfl, fun a b => by simpa using e2.out a b⟩, ?_⟩
  rw [e1.out.1, e1.out.2.1, e1.out.2.2.1, e1.out.2.2.2]
  exact left2_w (((Fr.refl [] w).alloc (.cells #[.int .i64 2, .string name, .int .i64 rate, .int .i64 burst, .int .i64 cost, .int .i64 now] 29)).drew) (left2_of (hW.out (((Fr.refl [] w).alloc _).drew)) hT1 hF1 (fun i hi => .inl hi) hR2 hF2 (fun i hi => .inl hi))

set_option maxRecDepth 100000 in
set_option maxHeartbeats 4000000 in
theorem step_3 (h : Both w t r T1 n1 T2 n2 F G) (o : QOp) (hk : o.kind = 3) : Calls Try.prog 16 #[ptr t, ptr r, opv o] w (StepPost w t r T1 n1 T2 n2 F G o) := by
  have e1 : Hid (stepT T1 n1 o = takeT T1 o.name o.cost o.now ∧ stepN T1 n1 o = n1 ∧ stepT T2 n2 o = takeT T2 o.name o.cost o.now ∧ stepN T2 n2 o = n2) := by
    unfold stepT stepN; rw [hk]; exact ⟨rfl, rfl, rfl, rfl⟩
  have e2 : Hid (T1 = T2 → n1 = n2 → takeR T1 o.name o.cost o.now = takeR T2 o.name o.cost o.now) := fun a b => by rw [a]
  obtain ⟨kind, name, rate, burst, cost, now⟩ := o
  dsimp only at hk e1 e2
  subst hk
  have hW : Hid (∀ {W : World}, Fr [] w W → Both W t r T1 n1 T2 n2 F G) := fun {W} hF => h.fr hF
  have HAP : Hid (∀ i ∈ G, i ∉ F) := fun i hi hf => h.apart i hf hi
  have HL : Hid (∀ i ∈ F ++ G, i < w.heap.size) := fun i hi => by
    rcases List.mem_append.1 hi with h1 | h1
    · exact h.tab.lt i h1
    · exact h.ref.lt i h1
  have nF : w.heap.size ∉ F := fun hm => by have := HL.out _ (List.mem_append_left _ hm); omega
  have nG : w.heap.size ∉ G := fun hm => by have := HL.out _ (List.mem_append_right _ hm); omega
  clear h
  show Calls Try.prog 16 #[ptr t, ptr r, .agg #[.int .i64 3, .string name, .int .i64 rate, .int .i64 burst, .int .i64 cost, .int .i64 now]] w _
  go_enter Try.func16, Try.ntmps16
  go_wp2
  go_region_held3 (fun w' => w'.cell? ⟨w.heap.size, 1, none⟩ = some (.string name) ∧ w'.cell? ⟨w.heap.size, 4, none⟩ = some (.int .i64 cost) ∧ w'.cell? ⟨w.heap.size, 5, none⟩ = some (.int .i64 now))
    (first
      | go_keep
      | (go_split_ands; exact ⟨cell_fr hF2 (by assumption) nG, cell_fr hF2 (by assumption) nG, cell_fr hF2 (by assumption) nG⟩)
      | (go_split_ands; exact ⟨cell_fr hF1 (by assumption) nF, cell_fr hF1 (by assumption) nF, cell_fr hF1 (by assumption) nF⟩))
    (first
      | (go_at_call 13; refine (take_any (hW.out (((Fr.refl [] w).alloc _).drew)).tab name cost now).mono ?_; rintro e w1 ⟨rfl, hT1, hF1⟩)
      | (go_at_call 41; refine (rtake_any ((hW.out (((Fr.refl [] w).alloc _).drew)).ref.fr hF1 HAP.out) name cost now).mono ?_; rintro e w2 ⟨rfl, hR2, hF2⟩))
  go_wp2
  go_ret
  refine ⟨⟨_, rfl, fun a b => by simpa using e2.out a b⟩, ?_⟩
  rw [e1.out.1, e1.out.2.1, e1.out.2.2.1, e1.out.2.2.2]
  exact left2_w (((Fr.refl [] w).alloc (.cells #[.int .i64 3, .string name, .int .i64 rate, .int .i64 burst, .int .i64 cost, .int .i64 now] 29)).drew) (left2_of (hW.out (((Fr.refl [] w).alloc _).drew)) hT1 hF1 (fun i hi => .inl hi) hR2 hF2 (fun i hi => .inl hi))

set_option maxRecDepth 100000 in
set_option maxHeartbeats 4000000 in
theorem step_4 (h : Both w t r T1 n1 T2 n2 F G) (o : QOp) (hk : o.kind = 4) : Calls Try.prog 16 #[ptr t, ptr r, opv o] w (StepPost w t r T1 n1 T2 n2 F G o) := by
  have e1 : Hid (stepT T1 n1 o = takeT T1 o.name o.cost o.now ∧ stepN T1 n1 o = n1 ∧ stepT T2 n2 o = takeT T2 o.name o.cost o.now ∧ stepN T2 n2 o = n2) := by
    unfold stepT stepN; rw [hk]; exact ⟨rfl, rfl, rfl, rfl⟩
  have e2 : Hid (T1 = T2 → n1 = n2 → takeR T1 o.name o.cost o.now = takeR T2 o.name o.cost o.now) := fun a b => by rw [a]
  obtain ⟨kind, name, rate, burst, cost, now⟩ := o
  dsimp only at hk e1 e2
  subst hk
  have hW : Hid (∀ {W : World}, Fr [] w W → Both W t r T1 n1 T2 n2 F G) := fun {W} hF => h.fr hF
  have HAP : Hid (∀ i ∈ G, i ∉ F) := fun i hi hf => h.apart i hf hi
  have HL : Hid (∀ i ∈ F ++ G, i < w.heap.size) := fun i hi => by
    rcases List.mem_append.1 hi with h1 | h1
    · exact h.tab.lt i h1
    · exact h.ref.lt i h1
  have nF : w.heap.size ∉ F := fun hm => by have := HL.out _ (List.mem_append_left _ hm); omega
  have nG : w.heap.size ∉ G := fun hm => by have := HL.out _ (List.mem_append_right _ hm); omega
  clear h
  show Calls Try.prog 16 #[ptr t, ptr r, .agg #[.int .i64 4, .string name, .int .i64 rate, .int .i64 burst, .int .i64 cost, .int .i64 now]] w _
  go_enter Try.func16, Try.ntmps16
  go_wp2
  go_region_held3 (fun w' => w'.cell? ⟨w.heap.size, 1, none⟩ = some (.string name) ∧ w'.cell? ⟨w.heap.size, 4, none⟩ = some (.int .i64 cost) ∧ w'.cell? ⟨w.heap.size, 5, none⟩ = some (.int .i64 now))
    (first
      | go_keep
      | (go_split_ands; exact ⟨cell_fr hF2 (by assumption) nG, cell_fr hF2 (by assumption) nG, cell_fr hF2 (by assumption) nG⟩)
      | (go_split_ands; exact ⟨cell_fr hF1 (by assumption) nF, cell_fr hF1 (by assumption) nF, cell_fr hF1 (by assumption) nF⟩))
    (first
      | (go_at_call 13; refine (take_any (hW.out (((Fr.refl [] w).alloc _).drew)).tab name cost now).mono ?_; rintro e w1 ⟨rfl, hT1, hF1⟩)
      | (go_at_call 41; refine (rtake_any ((hW.out (((Fr.refl [] w).alloc _).drew)).ref.fr hF1 HAP.out) name cost now).mono ?_; rintro e w2 ⟨rfl, hR2, hF2⟩))
  go_wp2
  go_ret
  refine ⟨⟨_, rfl, fun a b => by simpa using e2.out a b⟩, ?_⟩
  rw [e1.out.1, e1.out.2.1, e1.out.2.2.1, e1.out.2.2.2]
  exact left2_w (((Fr.refl [] w).alloc (.cells #[.int .i64 4, .string name, .int .i64 rate, .int .i64 burst, .int .i64 cost, .int .i64 now] 29)).drew) (left2_of (hW.out (((Fr.refl [] w).alloc _).drew)) hT1 hF1 (fun i hi => .inl hi) hR2 hF2 (fun i hi => .inl hi))

set_option maxRecDepth 100000 in
set_option maxHeartbeats 4000000 in
theorem step_5 (h : Both w t r T1 n1 T2 n2 F G) (o : QOp) (hk : o.kind = 5) : Calls Try.prog 16 #[ptr t, ptr r, opv o] w (StepPost w t r T1 n1 T2 n2 F G o) := by
  have e1 : Hid (stepT T1 n1 o = giveT T1 o.name o.cost o.now ∧ stepN T1 n1 o = n1 ∧ stepT T2 n2 o = giveT T2 o.name o.cost o.now ∧ stepN T2 n2 o = n2) := by
    unfold stepT stepN; rw [hk]; exact ⟨rfl, rfl, rfl, rfl⟩
  have e2 : Hid (T1 = T2 → n1 = n2 → giveE T1 o.name o.cost o.now = giveE T2 o.name o.cost o.now) := fun a b => by rw [a]
  obtain ⟨kind, name, rate, burst, cost, now⟩ := o
  dsimp only at hk e1 e2
  subst hk
  have hW : Hid (∀ {W : World}, Fr [] w W → Both W t r T1 n1 T2 n2 F G) := fun {W} hF => h.fr hF
  have HAP : Hid (∀ i ∈ G, i ∉ F) := fun i hi hf => h.apart i hf hi
  have HL : Hid (∀ i ∈ F ++ G, i < w.heap.size) := fun i hi => by
    rcases List.mem_append.1 hi with h1 | h1
    · exact h.tab.lt i h1
    · exact h.ref.lt i h1
  have nF : w.heap.size ∉ F := fun hm => by have := HL.out _ (List.mem_append_left _ hm); omega
  have nG : w.heap.size ∉ G := fun hm => by have := HL.out _ (List.mem_append_right _ hm); omega
  clear h
  show Calls Try.prog 16 #[ptr t, ptr r, .agg #[.int .i64 5, .string name, .int .i64 rate, .int .i64 burst, .int .i64 cost, .int .i64 now]] w _
  go_enter Try.func16, Try.ntmps16
  go_wp2
  go_region_held3 (fun w' => w'.cell? ⟨w.heap.size, 1, none⟩ = some (.string name) ∧ w'.cell? ⟨w.heap.size, 4, none⟩ = some (.int .i64 cost) ∧ w'.cell? ⟨w.heap.size, 5, none⟩ = some (.int .i64 now))
    (first
      | go_keep
      | (go_split_ands; exact ⟨cell_fr hF2 (by assumption) nG, cell_fr hF2 (by assumption) nG, cell_fr hF2 (by assumption) nG⟩)
      | (go_split_ands; exact ⟨cell_fr hF1 (by assumption) nF, cell_fr hF1 (by assumption) nF, cell_fr hF1 (by assumption) nF⟩))
    (first
      | (go_at_call 34; refine (give_any (hW.out (((Fr.refl [] w).alloc _).drew)).tab name cost now).mono ?_; rintro e w1 ⟨rfl, hT1, hF1⟩)
      | (go_at_call 42; refine (rgive_any ((hW.out (((Fr.refl [] w).alloc _).drew)).ref.fr hF1 HAP.out) name cost now).mono ?_; rintro e w2 ⟨rfl, hR2, hF2⟩))
  go_wp2
  go_ret
  refine ⟨⟨_, rfl, fun a b => by simpa using e2.out a b⟩, ?_⟩
  rw [e1.out.1, e1.out.2.1, e1.out.2.2.1, e1.out.2.2.2]
  exact left2_w (((Fr.refl [] w).alloc (.cells #[.int .i64 5, .string name, .int .i64 rate, .int .i64 burst, .int .i64 cost, .int .i64 now] 29)).drew) (left2_of (hW.out (((Fr.refl [] w).alloc _).drew)) hT1 hF1 (fun i hi => .inl hi) hR2 hF2 (fun i hi => .inl hi))

set_option maxRecDepth 100000 in
set_option maxHeartbeats 4000000 in
theorem step_8 (h : Both w t r T1 n1 T2 n2 F G) (o : QOp) (hk : o.kind = 8) : Calls Try.prog 16 #[ptr t, ptr r, opv o] w (StepPost w t r T1 n1 T2 n2 F G o) := by
  have e1 : Hid (stepT T1 n1 o = setT T1 o.name none ∧ stepN T1 n1 o = dropN T1 n1 o.name ∧ stepT T2 n2 o = setT T2 o.name none ∧ stepN T2 n2 o = dropN T2 n2 o.name) := by
    unfold stepT stepN; rw [hk]; exact ⟨rfl, rfl, rfl, rfl⟩
  have e2 : Hid (T1 = T2 → n1 = n2 → cntE T1 o.name = cntE T2 o.name) := fun a b => by rw [a]
  obtain ⟨kind, name, rate, burst, cost, now⟩ := o
  dsimp only at hk e1 e2
  subst hk
  have hW : Hid (∀ {W : World}, Fr [] w W → Both W t r T1 n1 T2 n2 F G) := fun {W} hF => h.fr hF
  have HAP : Hid (∀ i ∈ G, i ∉ F) := fun i hi hf => h.apart i hf hi
  have HL : Hid (∀ i ∈ F ++ G, i < w.heap.size) := fun i hi => by
    rcases List.mem_append.1 hi with h1 | h1
    · exact h.tab.lt i h1
    · exact h.ref.lt i h1
  have nF : w.heap.size ∉ F := fun hm => by have := HL.out _ (List.mem_append_left _ hm); omega
  have nG : w.heap.size ∉ G := fun hm => by have := HL.out _ (List.mem_append_right _ hm); omega
  clear h
  show Calls Try.prog 16 #[ptr t, ptr r, .agg #[.int .i64 8, .string name, .int .i64 rate, .int .i64 burst, .int .i64 cost, .int .i64 now]] w _
  go_enter Try.func16, Try.ntmps16
  go_wp2
  go_region_held3 (fun w' => w'.cell? ⟨w.heap.size, 1, none⟩ = some (.string name))
    (first
      | go_keep
      | exact cell_fr hF2 (by assumption) nG
      | exact cell_fr hF1 (by assumption) nF)
    (first
      | (go_at_call 35; refine (drop_any (hW.out (((Fr.refl [] w).alloc _).drew)).tab name).mono ?_; rintro e w1 ⟨rfl, hT1, hF1⟩)
      | (go_at_call 45; refine (rdrop_any ((hW.out (((Fr.refl [] w).alloc _).drew)).ref.fr hF1 HAP.out) name).mono ?_; rintro e w2 ⟨rfl, hF2, G2, hR2, hB2⟩))
  go_wp2
  go_ret
  refine ⟨⟨_, rfl, fun a b => by simpa using e2.out a b⟩, ?_⟩
  rw [e1.out.1, e1.out.2.1, e1.out.2.2.1, e1.out.2.2.2]
  exact left2_w (((Fr.refl [] w).alloc (.cells #[.int .i64 8, .string name, .int .i64 rate, .int .i64 burst, .int .i64 cost, .int .i64 now] 29)).drew) (left2_of (hW.out (((Fr.refl [] w).alloc _).drew)) hT1 hF1 (fun i hi => .inl hi) hR2 hF2 hB2)
end
end Go.Proofs.Ytoichcjlfpijeaa
