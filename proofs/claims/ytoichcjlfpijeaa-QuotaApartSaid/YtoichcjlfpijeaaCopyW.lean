/- Copy: its contract. -/
import Derived.Test.YtoichcjlfpijeaaPlayed
import Derived.Test.YtoichcjlfpijeaaQNextPure
import Derived.Test.YtoichcjlfpijeaaAllIt3
import Derived.Maps.OwnIn
namespace Go.Proofs.Ytoichcjlfpijeaa
open Go.RowKit Go.Bl Go.Shelf
attribute [local go_sem] Oper.semAt_some

def CopyPost (T : ByteArray → Option Bk) (w : World) (e : Ending) (w' : World) : Prop :=
  ∃ c n F', e = .returned (ptr c) ∧ Tab w' c T n F' ∧ Fr [] w w' ∧ ∀ i ∈ F', w.heap.size ≤ i

section
variable {F : Fence} {nF : Nat} (w : World) {w' : World} {ops : Array Oper} {rest : List Oper} {o : Oper} {a : Act} {Q : Exit → Act → World → Prop}
theorem wpListIn_mapUpdate_run (hg : o.guard = none) (t : TypeId) (m x y : Operand) (hop : o.op = Op.mapUpdate t m x y) (vm vx vy : Value) (hm : a.eval m = vm) (hx : a.eval x = vx) (hy : a.eval y = vy)
    (hrun : (Instr.mapUpdate t vm vx vy).run Try.prog w = .ok () w') (hK : wpListIn F nF Try.prog ops Q rest (a.put o.dst undef) w') : wpListIn F nF Try.prog ops Q (o :: rest) a w := by
  refine wpListIn_plain hg fun K' hK' => ?_
  unfold Oper.wpIn
  refine ⟨by simp [Oper.about, hop], ?_⟩
  rw [Oper.semAt_plain F _ _ (by rw [hop]; intro c hc'; cases hc')]
  simp [execOp, hop, hm, hx, hy, hrun, Result.andThen]
  exact hK' _ _ hK
end

/-- A copy under way: the new table at c (held in the box t3) has T at the names that have come. -/
structure CopyI (f : ByteArray → Option Value) (T : ByteArray → Option Bk) (w : World) (B t3 c mc : Nat) (pre : List (Ent f)) (W : World) : Prop where
  box : W.heap[t3]? = some (.cells #[ptr c] 23 (0, 0))
  ex : ∃ fc Tc n' Fc, TabO W c mc fc Tc n' Fc ∧ n' ≤ pre.length ∧ ((∀ s, s ∈ pre.map (fun x => x.1.1) → Tc s = T s) ∧ ∀ s, s ∉ pre.map (fun x => x.1.1) → fc s = none) ∧ (∀ i ∈ Fc, w.heap.size ≤ i) ∧
    (∀ i ∈ Fc, i ≠ t3 ∧ (i < B ∨ ∃ cs, W.heap[i]? = some (.cells cs 89 (0, 0))))
  old : Fr [] w W

theorem fr_of_grown {S : List Nat} {W W' : World} {row : Option Nat} (h : W.grownBy W' row) (hr : ∀ r, row = some r → r ∈ S) : Fr S W W' :=
  ⟨h.os, h.tape, h.output, h.size, fun i hi hS => h.block i hi fun e => hS (hr i e.symm)⟩

theorem CopyI.own {f : ByteArray → Option Value} {T : ByteArray → Option Bk} {w : World} {B t3 c mc : Nat} (hB : w.heap.size ≤ B) (ht3 : t3 < B) : OwnFrom B (CopyI f T w B t3 c mc) := by
  intro pre W W' row h hg hr
  obtain ⟨hbox, ⟨fc, Tc, n', Fc, hT, hn, hTc, hnew, hF⟩, hold⟩ := h
  obtain ⟨S, hS⟩ : ∃ S : List Nat, S = row.toList := ⟨_, rfl⟩
  have hrS : ∀ r, row = some r → r ∈ S := by rintro r rfl; simp [hS]
  have hSr : ∀ r ∈ S, B ≤ r ∧ ∃ o : Obj, W.heap[r]? = some o ∧ o.isCells = false := by
    intro r hr'
    rw [hS] at hr'
    cases row with
    | none => simp at hr'
    | some q => simp at hr'; subst hr'; exact hr r rfl
  have hFr := fr_of_grown (S := S) hg hrS
  have hout : ∀ i ∈ Fc, i ∉ S := by
    intro i hi hm
    obtain ⟨h1, o, h2, h3⟩ := hSr i hm
    rcases (hF i hi).2 with h | ⟨cs, h⟩
    · omega
    · rw [h] at h2; cases h2; cases h3
  refine ⟨hFr.obj hbox (fun hm => by have := (hSr _ hm).1; omega), ⟨fc, Tc, n', Fc, hT.fr hFr hout, hn, hTc, hnew, fun i hi => ⟨(hF i hi).1, ?_⟩⟩, hold.new hFr (fun i hi => by have := (hSr i hi).1; omega)⟩
  rcases (hF i hi).2 with h | ⟨cs, h⟩
  · exact .inl h
  · exact .inr ⟨cs, hFr.obj h (hout i hi)⟩

theorem KpB.trans {m B : Nat} {X Y Z : World} (h : KpB m B X Y) (k : KpB m B Y Z) : KpB m B X Z :=
  ⟨Nat.le_trans h.size k.size, k.map.trans h.map, fun i o hB hi ho => k.walk i o hB (h.walk i o hB hi ho) ho⟩
theorem KpB.putObj {m B : Nat} (hm : m < B) (W : World) (l : Nat) (o o' : Obj) (hl : B ≤ l) (h : W.heap[l]? = some o) (_ : o.isCells = false) (hw : o.isWalk = false) : KpB m B W (W.putObj l o') :=
  ⟨by simp [World.putObj], World.putObj_heap_other (by omega), fun k o2 _ hk hk2 => by
    by_cases e : k = l
    · subst e; rw [h] at hk; cases hk; rw [hw] at hk2; cases hk2
    · exact (World.putObj_heap_other e).trans hk⟩

theorem copy_nil_box {f : ByteArray → Option Value} {T : ByteArray → Option Bk} {n : Nat} {F : List Nat} {w : World} {t m : Nat} (h : TabO w t m f T n F) : ∀ s v, f s = some v → ∃ k : Nat, v = .pointer (some ⟨k, 0, none⟩) := fun s v hs => by
  obtain ⟨k, b, rfl, _⟩ := h.yes s v hs
  exact ⟨k, rfl⟩
end Go.Proofs.Ytoichcjlfpijeaa
