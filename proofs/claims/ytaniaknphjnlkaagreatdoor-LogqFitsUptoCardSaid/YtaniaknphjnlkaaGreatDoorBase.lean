/- Words of my own: frames of worlds, blocks known whole, maps keyed by strings. -/
import Derived.Below
import Derived.WalkKit
import Derived.Maps.Own
import Derived.Laws.NewBlocks
import Derived.Deep.Quiet
namespace Go.Bl
open Go.RowKit

/-- w' is w, but for the blocks in S and new ones. -/
structure Fr (S : List Nat) (w w' : World) : Prop where
  os : w'.os = w.os
  tape : w'.tape = w.tape
  output : w'.output = w.output
  size : w.heap.size ≤ w'.heap.size
  block : ∀ i, i < w.heap.size → i ∉ S → w'.heap[i]? = w.heap[i]?

theorem Fr.refl (S : List Nat) (w : World) : Fr S w w := ⟨rfl, rfl, rfl, Nat.le_refl _, fun _ _ _ => rfl⟩
theorem Fr.trans {S : List Nat} {a b c : World} (h : Fr S a b) (k : Fr S b c) : Fr S a c :=
  ⟨k.os.trans h.os, k.tape.trans h.tape, k.output.trans h.output, Nat.le_trans h.size k.size,
    fun i hi hS => (k.block i (Nat.lt_of_lt_of_le hi h.size) hS).trans (h.block i hi hS)⟩
theorem Fr.mono {S T : List Nat} {a b : World} (h : Fr S a b) (hs : ∀ i, i ∈ S → i ∈ T ∨ a.heap.size ≤ i) : Fr T a b :=
  ⟨h.os, h.tape, h.output, h.size, fun i hi hT => h.block i hi fun hS => by rcases hs i hS with h1 | h1; exact hT h1; omega⟩
theorem Fr.drewN {S : List Nat} {a b : World} (h : Fr S a b) (n : Nat) : Fr S a (b.drewN n) := ⟨h.os, h.tape, h.output, h.size, h.block⟩
theorem Fr.drew {S : List Nat} {a b : World} (h : Fr S a b) : Fr S a b.drew := ⟨h.os, h.tape, h.output, h.size, h.block⟩
theorem Fr.of_drew {S : List Nat} {a b : World} (h : Fr S a.drew b) : Fr S a b := ⟨h.os, h.tape, h.output, h.size, h.block⟩
theorem Fr.of_drewN {S : List Nat} {a b : World} {n : Nat} (h : Fr S (a.drewN n) b) : Fr S a b := ⟨h.os, h.tape, h.output, h.size, h.block⟩
theorem size_alloc' (w : World) (o : Obj) : (w.alloc o).heap.size = w.heap.size + 1 := by simp
theorem Fr.alloc {S : List Nat} {a b : World} (h : Fr S a b) (o : Obj) : Fr S a (b.alloc o) :=
  ⟨h.os, h.tape, h.output, by have := h.size; rw [size_alloc']; omega,
    fun i hi hS => (Below.heap_alloc b o i (Nat.lt_of_lt_of_le hi h.size)).trans (h.block i hi hS)⟩
theorem Fr.setCell {S : List Nat} {a b : World} (h : Fr S a b) {p : Addr} (hp : p.block ∈ S ∨ a.heap.size ≤ p.block) (u : Value) : Fr S a (b.setCell p u) :=
  ⟨h.os, h.tape, h.output, by have := h.size; simpa [World.setCell] using this,
    fun i hi hS => (Below.heap_setCell b p u i (by rintro rfl; rcases hp with hp | hp; exact hS hp; omega)).trans (h.block i hi hS)⟩
theorem Fr.setCell1 {k : Nat} {a b : World} (h : Fr [k] a b) (o : Nat) (u : Value) : Fr [k] a (b.setCell ⟨k, o, none⟩ u) := h.setCell (.inl (List.mem_singleton_self k)) u
theorem Fr.new {S : List Nat} {a b c : World} (h : Fr [] a b) (k : Fr S b c) (hS : ∀ i ∈ S, a.heap.size ≤ i) : Fr [] a c :=
  (h.mono (T := S) (by simp)).trans k |>.mono fun i hi => .inr (hS i hi)
theorem Fr.below {S : List Nat} {a b : World} (h : Fr S a b) {B : Nat} (hB : B ≤ a.heap.size) (hS : ∀ i ∈ S, B ≤ i) : Below B a b :=
  ⟨h.os, h.tape, h.output, h.size, fun i hi => h.block i (by omega) fun hm => by have := hS i hm; omega⟩
theorem Fr.obj {S : List Nat} {a b : World} (h : Fr S a b) {i : Nat} {o : Obj} (ho : a.heap[i]? = some o) (hS : i ∉ S) : b.heap[i]? = some o := by
  rw [h.block i (Array.getElem?_eq_some_iff.1 ho).1 hS, ho]

theorem lt_of_obj {w : World} {i : Nat} {o : Obj} (h : w.heap[i]? = some o) : i < w.heap.size := (Array.getElem?_eq_some_iff.1 h).1

theorem cell_of {w : World} {b : Nat} {cs : Array Value} {T : TypeId} {fr : Nat × Nat} (h : w.heap[b]? = some (.cells cs T fr)) (o : Nat) : w.cell? ⟨b, o, none⟩ = cs[o]? := by
  simp [World.cell?, h]
theorem frozen_of {w : World} {b : Nat} {cs : Array Value} {T : TypeId} (h : w.heap[b]? = some (.cells cs T (0, 0))) (o : Nat) : w.frozen? ⟨b, o, none⟩ = false := by
  simp [World.frozen?, h]

theorem heap_setCell {w : World} {b : Nat} {cs : Array Value} {T : TypeId} {fr : Nat × Nat} (h : w.heap[b]? = some (.cells cs T fr)) (o : Nat) (v : Value) :
    (w.setCell ⟨b, o, none⟩ v).heap[b]? = some (.cells (cs.setIfInBounds o v) T fr) := by
  have hl := lt_of_obj h
  simp [World.setCell, Array.getElem?_modify, h]
theorem heap_setCell_ne {w : World} {b b' : Nat} (hne : b' ≠ b) (o : Nat) (v : Value) : (w.setCell ⟨b, o, none⟩ v).heap[b']? = w.heap[b']? :=
  Below.heap_setCell w ⟨b, o, none⟩ v b' hne
theorem heap_drewN (w : World) (n : Nat) : (w.drewN n).heap = w.heap := rfl
theorem heap_drew (w : World) : w.drew.heap = w.heap := rfl
theorem heap_alloc (w : World) (o : Obj) : (w.alloc o).heap[w.heap.size]? = some o := by
  show (w.heap.push o)[w.heap.size]? = some o
  simp
theorem heap_alloc_old {w : World} {i : Nat} {x : Obj} (h : w.heap[i]? = some x) (o : Obj) : (w.alloc o).heap[i]? = some x := by
  rw [Below.heap_alloc w o i (lt_of_obj h), h]

/-- the world with another object at a block that is there -/
def _root_.Go.World.put (w : World) (b : Nat) (o : Obj) : World := { w with heap := w.heap.setIfInBounds b o }
theorem heap_put {w : World} {b : Nat} (h : b < w.heap.size) (o : Obj) : (w.put b o).heap[b]? = some o := by simp [World.put, h]
theorem heap_put_ne {w : World} {b b' : Nat} (hne : b' ≠ b) (o : Obj) : (w.put b o).heap[b']? = w.heap[b']? := by
  simp [World.put, Ne.symm hne]
theorem Fr.put {S : List Nat} {a w : World} (h : Fr S a w) {b : Nat} (hb : b ∈ S ∨ a.heap.size ≤ b) (o : Obj) : Fr S a (w.put b o) :=
  ⟨h.os, h.tape, h.output, by have := h.size; simpa [World.put] using this,
    fun i hi hS => (heap_put_ne (by rintro rfl; rcases hb with hb | hb; exact hS hb; omega) o).trans (h.block i hi hS)⟩

theorem ret_val {v v' : Value} (h : v = v') : Ending.returned v = .returned v' := by rw [h]
theorem ret_int {k : IntKind} {a b : Int} (h : a = b) : Ending.returned (.int k a) = .returned (.int k b) := by rw [h]
end Go.Bl
