/- Words of my own: frames of worlds, blocks known whole, maps keyed by strings. -/
import Derived.Below
import Derived.WalkKit
import Derived.Maps.Own
import Derived.Laws.NewBlocks
import Derived.Deep.Quiet
set_option linter.unusedVariables false
set_option linter.unusedSimpArgs false
namespace Go.Bl
open Go.RowKit

/-- w' is w, but for the blocks in S and new ones. -/
structure Fr (S : List Nat) (w w' : World) : Prop where
  os : w'.os = w.os
  tape : w'.tape = w.tape
  output : w'.output = w.output
  size : w.heap.size ≤ w'.heap.size
  block : ∀ i, i < w.heap.size → i ∉ S → w'.heap[i]? = w.heap[i]?

theorem Fr.refl (S : List Nat) (w : World) : Fr S w w := ⟨rfl, rfl, rfl, Nat.le_refl _, fun _ _ _ => rfl⟩
theorem Fr.trans {S : List Nat} {a b c : World} (h : Fr S a b) (k : Fr S b c) : Fr S a c :=
  ⟨k.os.trans h.os, k.tape.trans h.tape, k.output.trans h.output, Nat.le_trans h.size k.size,
    fun i hi hS => (k.block i (Nat.lt_of_lt_of_le hi h.size) hS).trans (h.block i hi hS)⟩
theorem Fr.mono {S T : List Nat} {a b : World} (h : Fr S a b) (hs : ∀ i, i ∈ S → i ∈ T ∨ a.heap.size ≤ i) : Fr T a b :=
  ⟨h.os, h.tape, h.output, h.size, fun i hi hT => h.block i hi fun hS => by rcases hs i hS with h1 | h1; exact hT h1; omega⟩
theorem Fr.drewN {S : List Nat} {a b : World} (h : Fr S a b) (n : Nat) : Fr S a (b.drewN n) := ⟨h.os, h.tape, h.output, h.size, h.block⟩
theorem Fr.drew {S : List Nat} {a b : World} (h : Fr S a b) : Fr S a b.drew := ⟨h.os, h.tape, h.output, h.size, h.block⟩
theorem Fr.of_drew {S : List Nat} {a b : World} (h : Fr S a.drew b) : Fr S a b := ⟨h.os, h.tape, h.output, h.size, h.block⟩
theorem Fr.of_drewN {S : List Nat} {a b : World} {n : Nat} (h : Fr S (a.drewN n) b) : Fr S a b := ⟨h.os, h.tape, h.output, h.size, h.block⟩
theorem size_alloc' (w : World) (o : Obj) : (w.alloc o).heap.size = w.heap.size + 1 := by simp
theorem Fr.alloc {S : List Nat} {a b : World} (h : Fr S a b) (o : Obj) : Fr S a (b.alloc o) :=
  ⟨h.os, h.tape, h.output, by have := h.size; rw [size_alloc']; omega,
    fun i hi hS => (Below.heap_alloc b o i (Nat.lt_of_lt_of_le hi h.size)).trans (h.block i hi hS)⟩
theorem Fr.setCell {S : List Nat} {a b : World} (h : Fr S a b) {p : Addr} (hp : p.block ∈ S ∨ a.heap.size ≤ p.block) (u : Value) : Fr S a (b.setCell p u) :=
  ⟨h.os, h.tape, h.output, by have := h.size; simpa [World.setCell] using this,
    fun i hi hS => (Below.heap_setCell b p u i (by rintro rfl; rcases hp with hp | hp; exact hS hp; omega)).trans (h.block i hi hS)⟩
theorem Fr.setCell1 {k : Nat} {a b : World} (h : Fr [k] a b) (o : Nat) (u : Value) : Fr [k] a (b.setCell ⟨k, o, none⟩ u) := h.setCell (.inl (List.mem_singleton_self k)) u
theorem Fr.new {S : List Nat} {a b c : World} (h : Fr [] a b) (k : Fr S b c) (hS : ∀ i ∈ S, a.heap.size ≤ i) : Fr [] a c :=
  (h.mono (T := S) (by simp)).trans k |>.mono fun i hi => .inr (hS i hi)
theorem Fr.below {S : List Nat} {a b : World} (h : Fr S a b) {B : Nat} (hB : B ≤ a.heap.size) (hS : ∀ i ∈ S, B ≤ i) : Below B a b :=
  ⟨h.os, h.tape, h.output, h.size, fun i hi => h.block i (by omega) fun hm => by have := hS i hm; omega⟩
theorem Fr.obj {S : List Nat} {a b : World} (h : Fr S a b) {i : Nat} {o : Obj} (ho : a.heap[i]? = some o) (hS : i ∉ S) : b.heap[i]? = some o := by
  rw [h.block i (Array.getElem?_eq_some_iff.1 ho).1 hS, ho]

theorem lt_of_obj {w : World} {i : Nat} {o : Obj} (h : w.heap[i]? = some o) : i < w.heap.size := (Array.getElem?_eq_some_iff.1 h).1

theorem cell_of {w : World} {b : Nat} {cs : Array Value} {T : TypeId} {fr : Nat × Nat} (h : w.heap[b]? = some (.cells cs T fr)) (o : Nat) : w.cell? ⟨b, o, none⟩ = cs[o]? := by
  simp [World.cell?, h]
theorem frozen_of {w : World} {b : Nat} {cs : Array Value} {T : TypeId} (h : w.heap[b]? = some (.cells cs T (0, 0))) (o : Nat) : w.frozen? ⟨b, o, none⟩ = false := by
  simp [World.frozen?, h]

theorem heap_setCell {w : World} {b : Nat} {cs : Array Value} {T : TypeId} {fr : Nat × Nat} (h : w.heap[b]? = some (.cells cs T fr)) (o : Nat) (v : Value) :
    (w.setCell ⟨b, o, none⟩ v).heap[b]? = some (.cells (cs.setIfInBounds o v) T fr) := by
  have hl := lt_of_obj h
  simp [World.setCell, Array.getElem?_modify, h]
theorem heap_setCell_ne {w : World} {b b' : Nat} (hne : b' ≠ b) (o : Nat) (v : Value) : (w.setCell ⟨b, o, none⟩ v).heap[b']? = w.heap[b']? :=
  Below.heap_setCell w ⟨b, o, none⟩ v b' hne
theorem heap_drewN (w : World) (n : Nat) : (w.drewN n).heap = w.heap := rfl
theorem heap_drew (w : World) : w.drew.heap = w.heap := rfl
theorem heap_alloc (w : World) (o : Obj) : (w.alloc o).heap[w.heap.size]? = some o := by
  show (w.heap.push o)[w.heap.size]? = some o
  simp
theorem heap_alloc_old {w : World} {i : Nat} {x : Obj} (h : w.heap[i]? = some x) (o : Obj) : (w.alloc o).heap[i]? = some x := by
  rw [Below.heap_alloc w o i (lt_of_obj h), h]

/-- the world with another object at a block that is there -/
def _root_.Go.World.put (w : World) (b : Nat) (o : Obj) : World := { w with heap := w.heap.setIfInBounds b o }
theorem heap_put {w : World} {b : Nat} (h : b < w.heap.size) (o : Obj) : (w.put b o).heap[b]? = some o := by simp [World.put, h]
theorem heap_put_ne {w : World} {b b' : Nat} (hne : b' ≠ b) (o : Obj) : (w.put b o).heap[b']? = w.heap[b']? := by
  simp [World.put, Ne.symm hne]
theorem Fr.put {S : List Nat} {a w : World} (h : Fr S a w) {b : Nat} (hb : b ∈ S ∨ a.heap.size ≤ b) (o : Obj) : Fr S a (w.put b o) :=
  ⟨h.os, h.tape, h.output, by have := h.size; simpa [World.put] using this,
    fun i hi hS => (heap_put_ne (by rintro rfl; rcases hb with hb | hb; exact hS hb; omega) o).trans (h.block i hi hS)⟩

theorem ret_val {v v' : Value} (h : v = v') : Ending.returned v = .returned v' := by rw [h]
theorem ret_int {k : IntKind} {a b : Int} (h : a = b) : Ending.returned (.int k a) = .returned (.int k b) := by rw [h]
end Go.Bl
namespace Go.Bl
open Go.RowKit

def isKey (s : ByteArray) : Value → Bool
  | .string b => s == b
  | _ => false
theorem isKey_iff {s : ByteArray} {v : Value} : isKey s v = true ↔ v = .string s := by
  cases v <;> simp [isKey]
  rename_i b
  rw [MapKept.bytes_beq]; exact eq_comm
theorem bytes_beq_self (s : ByteArray) : (s == s) = true := (MapKept.bytes_beq s s).2 rfl
theorem bytes_bne {a b : ByteArray} (h : a ≠ b) : (a == b) = false := by
  cases h' : a == b
  · rfl
  · exact absurd ((MapKept.bytes_beq a b).1 h') h
/-- The first entry of a key: its place and its value. -/
def fk (s : ByteArray) : List MapEntry → Nat → Option (Nat × Value)
  | [], _ => none
  | e :: es, i => if isKey s e.key then some (i, e.val) else fk s es (i + 1)
/-- What a map has at a key. -/
def lk (es : List MapEntry) (s : ByteArray) : Option Value := (fk s es 0).map (·.2)
def StrKeys (es : List MapEntry) : Prop := ∀ e ∈ es, ∃ b, e.key = .string b

theorem findNow_str (s : ByteArray) : ∀ (es : List MapEntry) (i : Nat), StrKeys es → Instr.findNow .string (.string s) es i = some (fk s es i)
  | [], i, _ => rfl
  | e :: es, i, h => by
    obtain ⟨b, hb⟩ := h e (by simp)
    have ih := findNow_str s es (i + 1) (fun x hx => h x (by simp [hx]))
    unfold Instr.findNow fk
    rw [hb]
    by_cases e1 : s = b
    · subst e1; simp [Instr.sameNow, isKey, bytes_beq_self]
    · simp [Instr.sameNow, isKey, bytes_bne e1, ih]

theorem run_findKey_str {P : Program} {k : TypeId} (hk : P.underlying k = some .string) (w : World) (s : ByteArray) (es : List MapEntry) (h : StrKeys es) : (Instr.findKey k (.string s) es).run P w = .ok (fk s es 0) w := by
  simp [Instr.findKey, run_underlying hk, findNow_str s es 0 h, Result.andThen]

theorem run_checkKey_str {P : Program} {k : TypeId} (hk : P.underlying k = some .string) (em : Bool) (w : World) (s : ByteArray) : (Instr.checkKey em 10000 k (.string s)).run P w = .ok () w := by
  unfold Instr.checkKey
  simp [run_underlying hk, Result.andThen]

theorem run_lookup_str {P : Program} {t k e : TypeId} {z : Value} (ht : P.underlying t = some (.map k e)) (hk : P.underlying k = some .string) (hz : ∀ w, (zeroValue e).run P w = .ok z w) {w : World} {m : Nat} {es : Array MapEntry} {clk : Nat}
    (hm : w.heap[m]? = some (.map es clk)) (h : StrKeys es.toList) (s : ByteArray) (c : Bool) :
    (Instr.lookup t (.map (some m)) (.string s) c).run P w = .ok (if c then .tuple #[(lk es.toList s).getD z, .bool (lk es.toList s).isSome] else (lk es.toList s).getD z) w := by
  cases hf : fk s es.toList 0 with
  | none => simp [Instr.lookup, run_underlying ht, MapKept.run_getObj_map hm, run_checkKey_str hk, run_findKey_str hk _ _ _ h, hf, lk, hz, Result.andThen]
  | some x => simp [Instr.lookup, run_underlying ht, MapKept.run_getObj_map hm, run_checkKey_str hk, run_findKey_str hk _ _ _ h, hf, lk, Result.andThen]

/-- The entries behind a store. -/
def upd (es : Array MapEntry) (clk : Nat) (s : ByteArray) (v : Value) : Obj :=
  match fk s es.toList 0 with
  | some (i, _) => .map (es.modify i fun e => { e with key := .string s, val := v }) clk
  | none => .map (es.push { key := .string s, val := v, born := clk }) (clk + 1)

theorem fk_at {s : ByteArray} : ∀ {es : List MapEntry} {i j : Nat} {v : Value}, fk s es i = some (j, v) → i ≤ j ∧ ∃ e, es[j - i]? = some e ∧ e.key = .string s ∧ e.val = v
  | [], _, _, _, h => by simp [fk] at h
  | e :: es, i, j, v, h => by
    unfold fk at h
    split at h
    · rename_i he; simp only [Option.some.injEq, Prod.mk.injEq] at h; obtain ⟨rfl, rfl⟩ := h; exact ⟨Nat.le_refl _, e, by simp, isKey_iff.1 he, rfl⟩
    · obtain ⟨h1, e', h2, h3⟩ := fk_at h
      refine ⟨by omega, e', ?_, h3⟩
      obtain ⟨d, rfl⟩ : ∃ d, j = i + 1 + d := ⟨j - (i + 1), by omega⟩
      rw [show i + 1 + d - i = d + 1 from by omega, List.getElem?_cons_succ]
      rwa [show i + 1 + d - (i + 1) = d from by omega] at h2

theorem run_keyStays_str {P : Program} (w : World) (s : ByteArray) : (Instr.keyThatStays (.string s) (.string s)).run P w = .ok (.string s) w := by
  simp [Instr.keyThatStays, Instr.sameBits, bytes_beq_self]

theorem run_update_str {P : Program} {t k e : TypeId} (ht : P.underlying t = some (.map k e)) (hk : P.underlying k = some .string) {w : World} {m : Nat} {es : Array MapEntry} {clk : Nat}
    (hm : w.heap[m]? = some (.map es clk)) (h : StrKeys es.toList) (s : ByteArray) (v : Value) :
    (Instr.mapUpdate t (.map (some m)) (.string s) v).run P w = .ok () (w.put m (upd es clk s v)) := by
  cases hf : fk s es.toList 0 with
  | none => simp [Instr.mapUpdate, run_underlying ht, MapKept.run_getObj_map hm, run_checkKey_str hk, run_findKey_str hk _ _ _ h, hf, upd, MapKept.run_setObj_map _ hm, Result.andThen, World.put]
  | some x =>
    obtain ⟨i, v0⟩ := x
    obtain ⟨_, e0, h1, h2, _⟩ := fk_at hf
    have h1' : es[i]? = some e0 := by simpa using h1
    simp [Instr.mapUpdate, run_underlying ht, MapKept.run_getObj_map hm, run_checkKey_str hk, run_findKey_str hk _ _ _ h, hf, h1', h2, run_keyStays_str, upd, MapKept.run_setObj_map _ hm, Result.andThen, World.put]

/-- The entries behind a delete. -/
def del (es : Array MapEntry) (clk : Nat) (s : ByteArray) : Obj :=
  match fk s es.toList 0 with
  | some (i, _) => .map (es.eraseIdxIfInBounds i) clk
  | none => .map es clk

theorem run_delete_str {P : Program} {t k e t' : TypeId} (ht : P.underlying t = some (.map k e)) (hk : P.underlying k = some .string) {w : World} {m : Nat} {es : Array MapEntry} {clk : Nat}
    (hm : w.heap[m]? = some (.map es clk)) (h : StrKeys es.toList) (s : ByteArray) (k' : TypeId) :
    (Builtin.delete_ #[t, k'] t' #[.map (some m), .string s]).run P w = .ok (.tuple #[]) (w.put m (del es clk s)) := by
  cases hf : fk s es.toList 0 with
  | none => simp [Builtin.delete_, run_underlying ht, MapKept.run_getObj_map hm, run_checkKey_str hk, run_findKey_str hk _ _ _ h, hf, del, MapKept.run_setObj_map _ hm, Result.andThen, World.put]
  | some x => simp [Builtin.delete_, run_underlying ht, MapKept.run_getObj_map hm, run_checkKey_str hk, run_findKey_str hk _ _ _ h, hf, del, MapKept.run_setObj_map _ hm, Result.andThen, World.put]

theorem run_len_map {P : Program} {t k e t' : TypeId} (ht : P.underlying t = some (.map k e)) {w : World} {m : Nat} {es : Array MapEntry} {clk : Nat} (hm : w.heap[m]? = some (.map es clk)) :
    (Builtin.len_ #[t] t' #[.map (some m)]).run P w = .ok (.int .i64 es.size) w := by
  simp [Builtin.len_, run_underlying ht, MapKept.run_getObj_map hm, Result.andThen, goInt]

def bump (o : Option Value) (n : Nat) : Nat := if o.isSome then n else n + 1
def drp (o : Option Value) (n : Nat) : Nat := if o.isSome then n - 1 else n
/-! ### A map as a function of its keys -/
structure MapAt (w : World) (m : Nat) (f : ByteArray → Option Value) (n : Nat) : Prop where
  ex : ∃ es clk, w.heap[m]? = some (.map es clk) ∧ es.size = n ∧ StrKeys es.toList ∧ MapKept.Stamped es clk ∧ ∀ s, lk es.toList s = f s

theorem fk_shift (s : ByteArray) : ∀ (es : List MapEntry) (i : Nat), fk s es (i + 1) = (fk s es i).map fun x => (x.1 + 1, x.2)
  | [], _ => rfl
  | e :: es, i => by
    unfold fk; split
    · rfl
    · exact fk_shift s es (i + 1)
theorem lk_cons (e : MapEntry) (es : List MapEntry) (s : ByteArray) : lk (e :: es) s = if isKey s e.key then some e.val else lk es s := by
  unfold lk; rw [fk]; split
  · rfl
  · rw [fk_shift, Option.map_map]; rfl
theorem lk_nil (s : ByteArray) : lk [] s = none := rfl
theorem lk_none {es : List MapEntry} {s : ByteArray} : lk es s = none ↔ ∀ e ∈ es, e.key ≠ .string s := by
  induction es with
  | nil => simp [lk_nil]
  | cons e es ih =>
    rw [lk_cons]; split
    · rename_i h; simp [isKey_iff.1 h]
    · rename_i h
      have h' : ¬ e.key = Value.string s := fun h' => h (isKey_iff.2 h')
      rw [ih]; simp [h']
theorem fk_none {es : List MapEntry} {s : ByteArray} : fk s es 0 = none ↔ lk es s = none := by unfold lk; simp
theorem lk_append (a b : List MapEntry) (s : ByteArray) : lk (a ++ b) s = match lk a s with | some v => some v | none => lk b s := by
  induction a with
  | nil => rfl
  | cons e a ih => rw [List.cons_append, lk_cons, lk_cons]; split <;> simp [ih]

theorem key_inj {s s' : ByteArray} (h : (Value.string s) = .string s') : s = s' := by cases h; rfl

theorem lk_set {es : List MapEntry} (hn : (es.map (·.key)).Nodup) {i : Nat} {e0 : MapEntry} {s : ByteArray} (h1 : es[i]? = some e0) (h2 : e0.key = .string s) (v : Value) (x : ByteArray) :
    lk (es.modify i fun e => { e with key := .string s, val := v }) x = if x = s then some v else lk es x := by
  induction es generalizing i with
  | nil => simp at h1
  | cons e es ih =>
    cases i with
    | zero =>
      simp only [List.getElem?_cons_zero, Option.some.injEq] at h1
      subst h1
      simp only [List.modify_zero_cons, lk_cons]
      by_cases hx : x = s
      · subst hx; simp [isKey, bytes_beq_self]
      · have e1 : isKey x (.string s) = false := bytes_bne hx
        rw [h2]; simp [e1, hx]
    | succ i =>
      simp only [List.getElem?_cons_succ] at h1
      simp only [List.map_cons, List.nodup_cons] at hn
      have hm : e.key ≠ .string s := fun hk => hn.1 (by rw [hk, ← h2]; exact List.mem_map.2 ⟨e0, List.mem_of_getElem? h1, rfl⟩)
      simp only [List.modify_succ_cons, lk_cons, ih hn.2 h1]
      by_cases hx : x = s
      · subst hx
        have : ¬ isKey x e.key = true := fun h => hm (isKey_iff.1 h)
        simp [this]
      · simp [hx]

theorem keys_modify (es : List MapEntry) (i : Nat) {e0 : MapEntry} {s : ByteArray} (h1 : es[i]? = some e0) (h2 : e0.key = .string s) (v : Value) :
    (es.modify i fun e => { e with key := .string s, val := v }).map (·.key) = es.map (·.key) := by
  induction es generalizing i with
  | nil => simp at h1
  | cons e es ih =>
    cases i with
    | zero => simp only [List.getElem?_cons_zero, Option.some.injEq] at h1; subst h1; simp [h2]
    | succ i => simp only [List.getElem?_cons_succ] at h1; simp [ih i h1]

theorem strKeys_iff (es : List MapEntry) : StrKeys es ↔ ∀ k ∈ es.map (·.key), ∃ b, k = .string b := by simp [StrKeys]

theorem MapAt.update {w : World} {m : Nat} {f : ByteArray → Option Value} {n : Nat} (h : MapAt w m f n) (s : ByteArray) (v : Value) :
    ∃ es clk, w.heap[m]? = some (.map es clk) ∧ StrKeys es.toList ∧ MapAt (w.put m (upd es clk s v)) m (fun x => if x = s then some v else f x) (bump (f s) n) := by
  obtain ⟨es, clk, hm, hn, hk, hd, hf⟩ := h.ex
  refine ⟨es, clk, hm, hk, ?_⟩
  cases hq : fk s es.toList 0 with
  | none =>
    have hl : lk es.toList s = none := fk_none.1 hq
    have hu : upd es clk s v = .map (es.push { key := .string s, val := v, born := clk }) (clk + 1) := by simp [upd, hq]
    rw [hu, ← hf s, hl]
    refine ⟨_, _, heap_put (lt_of_obj hm) _, by simp [hn, bump], ?_, ?_, fun x => ?_⟩
    · intro e he
      simp only [Array.toList_push, List.mem_append, List.mem_singleton] at he
      rcases he with he | rfl
      · exact hk e he
      · exact ⟨s, rfl⟩
    · exact MapKept.stamped_push hd (lk_none.1 hl)
    · rw [Array.toList_push, lk_append, lk_cons, lk_nil]
      by_cases hx : x = s
      · subst hx; simp [hl, isKey, bytes_beq_self]
      · have e1 : isKey x (.string s) = false := bytes_bne hx
        simp only [e1, hx, if_false, ← hf x, Bool.false_eq_true]
        cases lk es.toList x <;> rfl
  | some y =>
    obtain ⟨i, v0⟩ := y
    obtain ⟨_, e0, h1, h2, h3⟩ := fk_at hq
    rw [Nat.sub_zero] at h1
    have hl : lk es.toList s = some v0 := by simp [lk, hq]
    have hu : upd es clk s v = .map (es.modify i fun e => { e with key := .string s, val := v }) clk := by simp [upd, hq]
    rw [hu, ← hf s, hl]
    refine ⟨_, _, heap_put (lt_of_obj hm) _, by simp [hn, bump], ?_, ?_, fun x => ?_⟩
    · rw [strKeys_iff, Array.toList_modify, keys_modify _ i h1 h2, ← strKeys_iff]; exact hk
    · exact MapKept.stamped_modify hd i _ (fun _ _ => rfl) (fun e _ he => by rw [← Array.getElem?_toList, h1] at he; cases he; exact h2.symm)
    · rw [Array.toList_modify, lk_set hd.2.2 h1 h2, hf]

theorem lk_erase {es : List MapEntry} (hn : (es.map (·.key)).Nodup) {i : Nat} {e0 : MapEntry} {s : ByteArray} (h1 : es[i]? = some e0) (h2 : e0.key = .string s) (x : ByteArray) :
    lk (es.eraseIdx i) x = if x = s then none else lk es x := by
  induction es generalizing i with
  | nil => simp at h1
  | cons e es ih =>
    simp only [List.map_cons, List.nodup_cons] at hn
    cases i with
    | zero =>
      simp only [List.getElem?_cons_zero, Option.some.injEq] at h1
      subst h1
      simp only [List.eraseIdx_cons_zero, lk_cons]
      by_cases hx : x = s
      · subst hx
        simp only [if_true]
        exact lk_none.2 fun e' he' hk => hn.1 (by rw [h2, ← hk]; exact List.mem_map.2 ⟨e', he', rfl⟩)
      · have e1 : isKey x (.string s) = false := bytes_bne hx
        rw [h2]; simp [e1, hx]
    | succ i =>
      simp only [List.getElem?_cons_succ] at h1
      have hm : e.key ≠ .string s := fun hk => hn.1 (by rw [hk, ← h2]; exact List.mem_map.2 ⟨e0, List.mem_of_getElem? h1, rfl⟩)
      simp only [List.eraseIdx_cons_succ, lk_cons, ih hn.2 h1]
      by_cases hx : x = s
      · subst hx
        have : ¬ isKey x e.key = true := fun h => hm (isKey_iff.1 h)
        simp [this]
      · simp [hx]

theorem MapAt.delete {w : World} {m : Nat} {f : ByteArray → Option Value} {n : Nat} (h : MapAt w m f n) (s : ByteArray) :
    ∃ es clk, w.heap[m]? = some (.map es clk) ∧ StrKeys es.toList ∧ MapAt (w.put m (del es clk s)) m (fun x => if x = s then none else f x) (drp (f s) n) := by
  obtain ⟨es, clk, hm, hn, hk, hd, hf⟩ := h.ex
  refine ⟨es, clk, hm, hk, ?_⟩
  cases hq : fk s es.toList 0 with
  | none =>
    have hl : lk es.toList s = none := fk_none.1 hq
    have hu : del es clk s = .map es clk := by simp [del, hq]
    rw [hu, ← hf s, hl]
    refine ⟨es, clk, heap_put (lt_of_obj hm) _, hn, hk, hd, fun x => ?_⟩
    by_cases hx : x = s
    · subst hx; simp [hl]
    · simp [hx, hf]
  | some y =>
    obtain ⟨i, v0⟩ := y
    obtain ⟨_, e0, h1, h2, h3⟩ := fk_at hq
    rw [Nat.sub_zero] at h1
    have hl : lk es.toList s = some v0 := by simp [lk, hq]
    have hi : i < es.size := by have := (List.getElem?_eq_some_iff.1 h1).1; simpa using this
    have hu : del es clk s = .map (es.eraseIdxIfInBounds i) clk := by simp [del, hq]
    have he : (es.eraseIdxIfInBounds i).toList = es.toList.eraseIdx i := by rw [Array.eraseIdxIfInBounds, dif_pos hi, Array.toList_eraseIdx]
    rw [hu, ← hf s, hl]
    refine ⟨_, _, heap_put (lt_of_obj hm) _, ?_, ?_, ?_, fun x => ?_⟩
    · rw [← Array.length_toList, he, List.length_eraseIdx_of_lt (by simpa using hi)]; simp [hn, drp]
    · rw [he]; exact fun e hm => hk e (List.mem_of_mem_eraseIdx hm)
    · exact MapKept.stamped_erase hd i
    · rw [he, lk_erase hd.2.2 h1 h2, hf]

theorem MapAt.made (w : World) : MapAt (w.alloc (.map #[] 0)) w.heap.size (fun _ => none) 0 :=
  ⟨#[], 0, heap_alloc w _, rfl, by simp [StrKeys], MapKept.stamped_empty 0, fun _ => rfl⟩
theorem MapAt.fr {w w' : World} {m : Nat} {f : ByteArray → Option Value} {n : Nat} (h : MapAt w m f n) {S : List Nat} (hF : Fr S w w') (hS : m ∉ S) : MapAt w' m f n := by
  obtain ⟨es, clk, hm, hx⟩ := h.ex
  exact ⟨es, clk, hF.obj hm hS, hx⟩
theorem MapAt.lt {w : World} {m : Nat} {f : ByteArray → Option Value} {n : Nat} (h : MapAt w m f n) : m < w.heap.size := by
  obtain ⟨es, clk, hm, _⟩ := h.ex
  exact lt_of_obj hm
end Go.Bl
namespace Go.Bl
theorem MapAt.lookup {P : Program} {t k e : TypeId} {z : Value} (ht : P.underlying t = some (.map k e)) (hk : P.underlying k = some .string) (hz : ∀ w, (zeroValue e).run P w = .ok z w) {w : World} {m : Nat} {f : ByteArray → Option Value} {n : Nat}
    (h : MapAt w m f n) (s : ByteArray) (c : Bool) : (Instr.lookup t (.map (some m)) (.string s) c).run P w = .ok (if c then .tuple #[(f s).getD z, .bool (f s).isSome] else (f s).getD z) w := by
  obtain ⟨es, clk, hm, _, hk', _, hf⟩ := h.ex
  rw [run_lookup_str ht hk hz hm hk' s c, hf]
theorem MapAt.len {P : Program} {t k e t' : TypeId} (ht : P.underlying t = some (.map k e)) {w : World} {m : Nat} {f : ByteArray → Option Value} {n : Nat} (h : MapAt w m f n) :
    (Builtin.len_ #[t] t' #[.map (some m)]).run P w = .ok (.int .i64 n) w := by
  obtain ⟨es, clk, hm, hn, _⟩ := h.ex
  rw [run_len_map ht hm, hn]
/-- A store: what it runs to, and what the map is then. -/
theorem MapAt.store {P : Program} {t k e : TypeId} (ht : P.underlying t = some (.map k e)) (hk : P.underlying k = some .string) {w : World} {m : Nat} {f : ByteArray → Option Value} {n : Nat} (h : MapAt w m f n) (s : ByteArray) (v : Value) :
    ∃ w', (Instr.mapUpdate t (.map (some m)) (.string s) v).run P w = .ok () w' ∧ MapAt w' m (fun x => if x = s then some v else f x) (bump (f s) n) ∧ Fr [m] w w' ∧ w'.heap.size = w.heap.size := by
  obtain ⟨es, clk, hm, hk', hM⟩ := h.update s v
  exact ⟨_, run_update_str ht hk hm hk' s v, hM, (Fr.refl _ _).put (.inl (List.mem_singleton_self m)) _, by simp [World.put]⟩
theorem MapAt.drop {P : Program} {t k e : TypeId} (ht : P.underlying t = some (.map k e)) (hk : P.underlying k = some .string) {w : World} {m : Nat} {f : ByteArray → Option Value} {n : Nat} (h : MapAt w m f n) (s : ByteArray) :
    ∃ w', (∀ t' k', (Builtin.delete_ #[t, k'] t' #[.map (some m), .string s]).run P w = .ok (.tuple #[]) w') ∧ MapAt w' m (fun x => if x = s then none else f x) (drp (f s) n) ∧ Fr [m] w w' ∧ w'.heap.size = w.heap.size := by
  obtain ⟨es, clk, hm, hk', hM⟩ := h.delete s
  exact ⟨_, fun t' k' => run_delete_str ht hk hm hk' s k', hM, (Fr.refl _ _).put (.inl (List.mem_singleton_self m)) _, by simp [World.put]⟩
end Go.Bl

namespace Go.Bl
section
variable {P : Program} {ops : Array Oper} {rest : List Oper} {o : Oper} {a : Act} {Q : Exit → Act → World → Prop} {w w' : World}
theorem wpList_wanted (hw : Region.wanted o (yielded ops a.tmps) = true)
    (h : ∀ K : Act → World → Prop, (∀ a w, wpList P ops Q rest a w → K a w) → o.wp P a w K Q) : wpList P ops Q (o :: rest) a w :=
  wpList_step fun K hK => by rw [if_pos hw]; exact h K hK
/-- A lookup, a store, a delete, a len of a map, by what it runs to. -/
theorem wpList_lookup (hw : Region.wanted o (yielded ops a.tmps) = true) (t : TypeId) (m x : Operand) (c : Bool) (hop : o.op = Op.lookup t m x c) (vm vx v : Value) (hm : a.eval m = vm) (hx : a.eval x = vx)
    (hrun : (Instr.lookup t vm vx c).run P w = .ok v w') (hK : wpList P ops Q rest (a.put o.dst v) w') : wpList P ops Q (o :: rest) a w := by
  refine wpList_wanted hw fun K' hK' => ?_
  unfold Oper.wp
  simp [execOp, hop, hm, hx, hrun, Result.andThen]
  exact hK' _ _ hK
theorem wpList_mapUpdate (hw : Region.wanted o (yielded ops a.tmps) = true) (t : TypeId) (m x y : Operand) (hop : o.op = Op.mapUpdate t m x y) (vm vx vy : Value) (hm : a.eval m = vm) (hx : a.eval x = vx) (hy : a.eval y = vy)
    (hrun : (Instr.mapUpdate t vm vx vy).run P w = .ok () w') (hK : wpList P ops Q rest (a.put o.dst undef) w') : wpList P ops Q (o :: rest) a w := by
  refine wpList_wanted hw fun K' hK' => ?_
  unfold Oper.wp
  simp [execOp, hop, hm, hx, hy, hrun, Result.andThen]
  exact hK' _ _ hK
theorem wpList_maplen (hw : Region.wanted o (yielded ops a.tmps) = true) (t : TypeId) (m : Operand) (hop : o.op = Op.call { callee := .builtin .len, args := #[m], argTypes := #[t] }) (vm v : Value) (hm : a.eval m = vm)
    (hrun : (Builtin.len_ #[t] o.type #[vm]).run P w = .ok v w') (hK : wpList P ops Q rest (a.put o.dst v) w') : wpList P ops Q (o :: rest) a w := by
  refine wpList_wanted hw fun K' hK' => ?_
  unfold Oper.wp execOp
  simp only [hop, resolve, invoke, builtin, Sem.run_bind, Sem.run_pure, Result.andThen_ok, List.map_toArray, List.map_cons, List.map_nil, hm, hrun]
  exact hK' _ _ hK
theorem wpList_delete (hw : Region.wanted o (yielded ops a.tmps) = true) (t k : TypeId) (m x : Operand) (hop : o.op = Op.call { callee := .builtin .delete, args := #[m, x], argTypes := #[t, k] }) (vm vx v : Value) (hm : a.eval m = vm) (hx : a.eval x = vx)
    (hrun : (Builtin.delete_ #[t, k] o.type #[vm, vx]).run P w = .ok v w') (hK : wpList P ops Q rest (a.put o.dst v) w') : wpList P ops Q (o :: rest) a w := by
  refine wpList_wanted hw fun K' hK' => ?_
  unfold Oper.wp execOp
  simp only [hop, resolve, invoke, builtin, Sem.run_bind, Sem.run_pure, Result.andThen_ok, List.map_toArray, List.map_cons, List.map_nil, hm, hx, hrun]
  exact hK' _ _ hK
end
end Go.Bl
