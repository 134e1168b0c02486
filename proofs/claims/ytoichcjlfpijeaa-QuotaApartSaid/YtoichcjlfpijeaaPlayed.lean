/- played: both tables behind a script, alike. -/
import Derived.Test.YtoichcjlfpijeaaStep2
import Derived.OwnWalk
import Derived.Deep.RegionWith
namespace Go.Proofs.Ytoichcjlfpijeaa
open Go.RowKit Go.Bl

/-- The table behind so many calls. -/
def play (l : Nat → QOp) : Nat → (ByteArray → Option Bk) × Nat
  | 0 => (T0, 0)
  | k + 1 => (stepT (play l k).1 (play l k).2 (l k), stepN (play l k).1 (play l k).2 (l k))
def upTo (len : Nat) : Nat := if len < 200 then len else 200

def PRel (l : Nat → QOp) (t r len : Nat) (w : World) (iv : Value) (wr : World) : Prop :=
  ∃ (k : Nat) (F G : List Nat), iv = .int .i64 k ∧ k ≤ upTo len ∧ Both wr t r (play l k).1 (play l k).2 (play l k).1 (play l k).2 F G ∧ Fr [] w wr ∧ (∀ i ∈ F, w.heap.size ≤ i) ∧ (∀ i ∈ G, w.heap.size ≤ i)

def PlayedPost (l : Nat → QOp) (len : Nat) (w : World) (e : Ending) (w' : World) : Prop :=
  ∃ t r F G, e = .returned (.tuple #[ptr t, ptr r, .bool true]) ∧ Both w' t r (play l (upTo len)).1 (play l (upTo len)).2 (play l (upTo len)).1 (play l (upTo len)).2 F G ∧ Fr [] w w' ∧ (∀ i ∈ F, w.heap.size ≤ i) ∧ (∀ i ∈ G, w.heap.size ≤ i)

theorem rtab_new (w : World) : RT (w.alloc (.cells #[.slice none 0 0] 41)) w.heap.size T0 0 [w.heap.size] :=
  ⟨[], ⟨⟨_, heap_alloc w _, World.ownsRow_nil _ _ _ _, fun g hg => by simp [Value.ownBlock] at hg⟩, by simp, by simp, by simp⟩, fun s => rfl, rfl, by simp, by simp⟩

theorem step9_same (T : ByteArray → Option Bk) (n : Nat) (s : ByteArray) : stepT T n ⟨9, s, 0, 0, 0, 0⟩ = T ∧ stepN T n ⟨9, s, 0, 0, 0, 0⟩ = n := by
  unfold stepT stepN; exact ⟨rfl, rfl⟩

theorem rlen {w : World} {r : Nat} {T : ByteArray → Option Bk} {n : Nat} {F : List Nat} (h : RT w r T n F) : ∃ A cap, w.heap[r]? = some (.cells #[.slice A n cap] 41 (0, 0)) := by
  obtain ⟨L, hR, _, hl, _⟩ := h.ex
  obtain ⟨v, h1, h2, _⟩ := hR.ex
  obtain ⟨A, c, rfl⟩ := own_shape h2
  exact ⟨A, c, by rw [← hl]; exact h1⟩

theorem prel_next {l : Nat → QOp} {t r len k : Nat} {w wr W w3 w5 w6 : World} {F' G' F1 G1 : List Nat} {s : ByteArray} (hk : k < upTo len) (hG : Fr [] w wr) (hBF : ∀ i ∈ F', w.heap.size ≤ i) (hBG : ∀ i ∈ G', w.heap.size ≤ i) (hX : Fr [] wr W) (h1 : Fr (F' ++ G') W w3)
    (_ : Both w3 t r (stepT (play l k).1 (play l k).2 (l k)) (stepN (play l k).1 (play l k).2 (l k)) (stepT (play l k).1 (play l k).2 (l k)) (stepN (play l k).1 (play l k).2 (l k)) F1 G1) (hF1 : ∀ i ∈ F1, i ∈ F' ∨ W.heap.size ≤ i) (hG1 : ∀ i ∈ G1, i ∈ G' ∨ W.heap.size ≤ i)
    (hL : Left2 w3 w5 t r (stepT (stepT (play l k).1 (play l k).2 (l k)) (stepN (play l k).1 (play l k).2 (l k)) ⟨9, s, 0, 0, 0, 0⟩) (stepN (stepT (play l k).1 (play l k).2 (l k)) (stepN (play l k).1 (play l k).2 (l k)) ⟨9, s, 0, 0, 0, 0⟩)
      (stepT (stepT (play l k).1 (play l k).2 (l k)) (stepN (play l k).1 (play l k).2 (l k)) ⟨9, s, 0, 0, 0, 0⟩) (stepN (stepT (play l k).1 (play l k).2 (l k)) (stepN (play l k).1 (play l k).2 (l k)) ⟨9, s, 0, 0, 0, 0⟩) F1 G1) (h6 : Fr [] w5 w6) :
    PRel l t r len w (.int .i64 ((k : Int) + 1)) w6 := by
  obtain ⟨F2, G2, hb2, hF2, hG2⟩ := hL.ex
  rw [(step9_same _ _ s).1, (step9_same _ _ s).2] at hb2
  have z0 := hG.size
  have z1 := hX.size
  have z2 := h1.size
  have f1 : ∀ i ∈ F1, w.heap.size ≤ i := fun i hi => by
    rcases hF1 i hi with h | h
    · exact hBF i h
    · omega
  have g1 : ∀ i ∈ G1, w.heap.size ≤ i := fun i hi => by
    rcases hG1 i hi with h | h
    · exact hBG i h
    · omega
  have a1 : Fr [] w w3 := (hG.trans hX).new h1 fun i hi => by
    rcases List.mem_append.1 hi with h | h
    · exact hBF i h
    · exact hBG i h
  have a2 : Fr [] w w5 := a1.new hL.fr fun i hi => by
    rcases List.mem_append.1 hi with h | h
    · exact f1 i h
    · exact g1 i h
  have z3 := a1.size
  refine ⟨k + 1, F2, G2, by go_num, hk, hb2.fr h6, a2.trans h6, fun i hi => ?_, fun i hi => ?_⟩
  · rcases hF2 i hi with h | h
    · exact f1 i h
    · omega
  · rcases hG2 i hi with h | h
    · exact g1 i h
    · omega

set_option maxRecDepth 100000 in
set_option maxHeartbeats 8000000 in
theorem played_any (A : Option Addr) (len cap : Nat) (l : Nat → QOp) (w : World) (hl : OpsAt w A len l) :
    Calls Try.prog 14 #[.slice A len cap] w (PlayedPost l len w) := by
  have HL := Lib.hid hl
  have hmax := hl.max
  clear hl
  go_enter Try.func14, Try.ntmps14
  go_wp2_with fail
  refine (new_tab w).mono ?_
  rintro e w1 ⟨hF1, t, F, rfl, hT1, hB1⟩
  have hb0 : Both (w1.alloc (.cells #[.slice none 0 0] 41)) t w1.heap.size T0 0 T0 0 F [w1.heap.size] :=
    ⟨hT1.fr ((Fr.refl [] w1).alloc _) (fun _ _ => by simp), rtab_new w1, fun i hi hm => by have := hT1.lt i hi; simp at hm; omega⟩
  have hz := hF1.size
  have hF2 := hF1.alloc (.cells #[.slice none 0 0] 41)
  have HB0 := Lib.hid (And.intro hb0 (And.intro hF2 hB1))
  clear hb0 hF2 hT1 hF1 hB1
  go_wp2_with fail
  go_loopw [7] (fun iv wr => PRel l t w1.heap.size len w iv wr) (fun i _ => len - (intOf i).toNat)
  case atStart => exact ⟨0, F, _, rfl, Nat.zero_le _, HB0.out.1, HB0.out.2.1, HB0.out.2.2, by simp; omega⟩
  case round =>
    obtain ⟨k, F', G', rfl, hk, hb, hG, hBF, hBG⟩ := hrel
    by_cases hlt : k < len
    · by_cases h200 : (k : Int) < 200
      · obtain ⟨ad, rfl, c0, c1, c2, c3, c4, c5⟩ := (HL.out.fr hG).op k hlt
        have hsp := World.cell?_spot c0
        have nW : wr.heap.size ∉ F' ++ G' := fun hm => by
          rcases List.mem_append.1 hm with h1 | h1
          · have := hb.tab.lt _ h1; omega
          · have := hb.ref.lt _ h1; omega
        have hx := heap_alloc wr (.cells #[.int .i64 (l k).kind, .string (l k).name, .int .i64 (l k).rate, .int .i64 (l k).burst, .int .i64 (l k).cost, .int .i64 (l k).now] 29)
        have HX : Hid ((wr.alloc (.cells #[.int .i64 (l k).kind, .string (l k).name, .int .i64 (l k).rate, .int .i64 (l k).burst, .int .i64 (l k).cost, .int .i64 (l k).now] 29)).drew.cell? ⟨wr.heap.size, 1, none⟩ = some (.string (l k).name)) := by have h1 := cell_of hx 1; exact h1
        have HFX : Hid (Fr [] wr (wr.alloc (.cells #[.int .i64 (l k).kind, .string (l k).name, .int .i64 (l k).rate, .int .i64 (l k).burst, .int .i64 (l k).cost, .int .i64 (l k).now] 29)).drew) := ((Fr.refl [] wr).alloc _).drew
        clear hx
        go_wp2_with fail
        go_region_with (first
          | (go_at_call 16; refine (step_any (hb.fr HFX.out) (l k)).mono ?_; rintro e w3 ⟨⟨b, he, hbt⟩, hL⟩; obtain rfl := hbt rfl rfl; subst he; have d1 := cell_fr hL.fr HX.out nW; obtain ⟨F1, G1, hb1, hBF1, hBG1⟩ := hL.ex; obtain ⟨RA, rcap, hrh⟩ := rlen hb1.ref; have cr := cell_of hrh 0; have hFr1 := hL.fr; clear hb hbt hrh)
          | (go_at_call 36; refine (len_any hb1.tab).mono ?_; rintro e w4 ⟨rfl, rfl⟩)
          | (go_at_call 16; refine (step_any hb1 ⟨9, (l k).name, 0, 0, 0, 0⟩).mono ?_; rintro e w5 ⟨⟨b, he, hbt⟩, hL⟩; obtain rfl := hbt rfl rfl; subst he))
        all_goals
          go_wp2
          exact ⟨prel_next (by unfold upTo; split <;> omega) hG hBF hBG HFX.out hFr1 hb1 hBF1 hBG1 hL (by repeat (first | with_reducible exact Fr.refl _ _ | with_reducible refine Fr.drew ?_ | with_reducible refine Fr.drewN ?_ _)), by simp [intOf]; omega⟩
      · go_wp2_with fail
        go_ret3
        have e : k = upTo len := by unfold upTo at hk ⊢; split at hk <;> split <;> omega
        subst e
        exact ⟨t, _, F', G', rfl, hb, hG, hBF, hBG⟩
    · go_wp2_with fail
      go_ret3
      have e : k = upTo len := by unfold upTo at hk ⊢; split at hk <;> split <;> omega
      subst e
      exact ⟨t, _, F', G', rfl, hb, hG, hBF, hBG⟩
end Go.Proofs.Ytoichcjlfpijeaa
