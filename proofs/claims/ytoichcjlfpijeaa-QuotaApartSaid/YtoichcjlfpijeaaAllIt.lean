/- maps.All over a map of strings to pointers: the iterator's contract (F75, F61). -/
import Derived.Test.YtoichcjlfpijeaaProg
import Derived.Test.YtoichcjlfpijeaaSMap
import Derived.Maps.RangeRun
import Derived.Maps.Range
import Derived.RangeFuncMany
import Derived.RangeFuncLeaves
import Derived.Sort.MapsRangeIn
import Derived.Sort.KeysCollected
import Derived.WalkKit
import Derived.OwnWalkIn
import Derived.TacticsInMore
import Derived.RegionIn
import Derived.LoopNIn
import Derived.LoopIn
import Derived.Shelf.Abstract
namespace Go.Proofs.Ytoichcjlfpijeaa
open Go.RowKit Go.Maps Go.Sort Go.Shelf Go.Proofs Go.Bl
open Go.ChangeMaps (setBlock)

theorem inj_of_nodup {α β : Type} {g : α → β} {l : List α} (hn : (l.map g).Nodup) {x y : α} (hx : x ∈ l) (hy : y ∈ l) (h : g x = g y) : x = y := by
  induction l with
  | nil => cases hx
  | cons a l ih =>
    simp only [List.map_cons, List.nodup_cons] at hn
    rcases List.mem_cons.1 hx with e1 | h1
    · rcases List.mem_cons.1 hy with e2 | h2
      · rw [e1, e2]
      · exact absurd (List.mem_map.2 ⟨y, h2, by rw [← h, e1]⟩) hn.1
    · rcases List.mem_cons.1 hy with e2 | h2
      · exact absurd (List.mem_map.2 ⟨x, h1, by rw [h, e2]⟩) hn.1
      · exact ih hn.2 h1 h2

/-- A range over a map of strings to pointers, under way: what has come, how many are left. -/
def Rg (w : World) (m r : Nat) (f : ByteArray → Option Value) (n : Nat) (ps : List (ByteArray × Nat)) (cnt : Nat) : Prop :=
  ∃ es clk since seen c0, w.heap[m]? = some (.map es clk) ∧ w.heap[r]? = some (.mapIter (some m) since seen c0) ∧ (∀ x ∈ es.toList, x.born < since) ∧ since ≤ c0 ∧ since ≤ clk ∧
    es.size = n ∧ StrKeys es.toList ∧ MapKept.Stamped es clk ∧ (∀ s, lk es.toList s = f s) ∧ (leftOf es seen).size = cnt ∧ ps.length + cnt ≤ n ∧ (ps.map (·.1)).Nodup ∧
    (∀ p ∈ ps, f p.1 = some (.pointer (some ⟨p.2, 0, none⟩))) ∧ ∀ x ∈ es.toList, seen.contains x.born = true ↔ x.key ∈ ps.map fun p => Value.string p.1

/-- All have come, each once. -/
def AllP (f : ByteArray → Option Value) (ps : List (ByteArray × Nat)) : Prop := (ps.map (·.1)).Nodup ∧ (∀ p ∈ ps, f p.1 = some (.pointer (some ⟨p.2, 0, none⟩))) ∧ ∀ s v, f s = some v → s ∈ ps.map (·.1)

theorem Rg.start {w : World} {m n : Nat} {f : ByteArray → Option Value} (h : MapAt w m f n) {es : Array MapEntry} {clk : Nat} (hm : w.heap[m]? = some (.map es clk)) : Rg (w.alloc (.mapIter (some m) clk #[] clk)) m w.heap.size f n [] n := by
  obtain ⟨es', clk', hm', hn, hk, hs, hf⟩ := h.ex
  rw [hm] at hm'
  cases hm'
  exact ⟨es, clk, clk, #[], clk, Go.Bl.heap_alloc_old hm _, heap_alloc w _, hs.1, Nat.le_refl _, Nat.le_refl _, hn, hk, hs, hf, by rw [← hn]; simp [leftOf], by simp, by simp, by simp, by simp⟩

theorem lk_of_mem {es : List MapEntry} (hn : (es.map (·.key)).Nodup) {e : MapEntry} (he : e ∈ es) {s : ByteArray} (hk : e.key = .string s) : lk es s = some e.val := by
  induction es with
  | nil => cases he
  | cons x es ih =>
    rw [lk_cons]
    simp only [List.map_cons, List.nodup_cons] at hn
    rcases List.mem_cons.1 he with rfl | h
    · rw [if_pos (isKey_iff.2 hk)]
    · rw [if_neg, ih hn.2 h]
      intro hx
      exact hn.1 (by rw [isKey_iff.1 hx, ← hk]; exact List.mem_map.2 ⟨e, h, rfl⟩)

theorem Rg.next {w : World} {m r n cnt : Nat} {f : ByteArray → Option Value} {ps : List (ByteArray × Nat)} (h : Rg w m r f n ps cnt) (hv : ∀ s v, f s = some v → ∃ k : Nat, v = .pointer (some ⟨k, 0, none⟩)) (ty : TypeId) :
    (AllP f ps ∧ (Instr.next (.pointer (some ⟨r, 0, none⟩)) false ty).run Try.prog w = .ok (.tuple #[.bool false]) w) ∨
    ∃ (s : ByteArray) (k : Nat) (w' : World) (cnt' : Nat), (Instr.next (.pointer (some ⟨r, 0, none⟩)) false ty).run Try.prog w = .ok (.tuple #[.bool true, .string s, .pointer (some ⟨k, 0, none⟩)]) w' ∧
      Rg w' m r f n (ps ++ [(s, k)]) cnt' ∧ cnt' < cnt ∧ w.grownBy w' (some r) ∧ w'.heap.size = w.heap.size ∧ (Instr.entry (.pointer (some ⟨r, 0, none⟩))).run Try.prog w' = .ok (.tuple #[.string s, .pointer (some ⟨k, 0, none⟩)]) w' := by
  obtain ⟨es, clk, since, seen, c0, hm, hr, hold, hsc, hsk, hn, hk, hst, hf, hc, hle, hnd, hps, hseen⟩ := h
  have hne : r ≠ m := by rintro rfl; rw [hm] at hr; cases hr
  rcases run_next_at (P := Try.prog) w ty r m since c0 seen es clk hr hm hold hsc with ⟨h0, hrun⟩ | ⟨e, he, w1, hal, hrun⟩
  · refine Or.inl ⟨⟨hnd, hps, fun s v hs => ?_⟩, hrun⟩
    rw [← hf] at hs
    obtain ⟨y, hy⟩ : ∃ y, fk s es.toList 0 = some y := by
      cases hq : fk s es.toList 0 with
      | none => rw [fk_none.1 hq] at hs; cases hs
      | some y => exact ⟨y, rfl⟩
    obtain ⟨i, v0⟩ := y
    obtain ⟨_, e0, h1, h2, h3⟩ := fk_at hy
    have hmem := List.mem_of_getElem? h1
    have := (hseen e0 hmem).1 (all_seen es seen h0 e0 hmem)
    rw [h2] at this
    obtain ⟨p, hp, hpe⟩ := List.mem_map.1 this
    exact List.mem_map.2 ⟨p, hp, key_inj hpe⟩
  · obtain ⟨hem, hes⟩ := mem_left he
    obtain ⟨s, hs⟩ := hk e hem
    have hfs : f s = some e.val := by rw [← hf]; exact lk_of_mem hst.2.2 hem hs
    obtain ⟨k, hkv⟩ := hv s _ hfs
    have hr1 : w1.heap[r]? = some (.mapIter (some m) since seen c0) := by rcases hal with rfl | rfl <;> exact hr
    have hm1 : w1.heap[m]? = some (.map es clk) := by rcases hal with rfl | rfl <;> exact hm
    have hset := MapKept.heap_set (o' := .mapIter (some m) since (seen.push e.born) clk) hr1
    have hm' : (setBlock w1 r (.mapIter (some m) since (seen.push e.born) clk)).heap[m]? = some (.map es clk) := (hset.2 m (fun e1 => hne e1.symm)).trans hm1
    have hnot : s ∉ ps.map (·.1) := fun hin => by
      have : seen.contains e.born = true := (hseen e hem).2 (by rw [hs]; obtain ⟨p, hp, hpe⟩ := List.mem_map.1 hin; exact List.mem_map.2 ⟨p, hp, by rw [hpe]⟩)
      rw [this] at hes; cases hes
    have hsh := left_shrinks es seen e he
    rw [hs, hkv] at hrun
    have hent := run_entry_at (P := Try.prog) _ r m since seen es clk e hset.1 hm' hem ((MapKept.stamped_iff es clk).1 hst).2.1
    rw [hs, hkv] at hent
    refine Or.inr ⟨s, k, _, _, hrun, ⟨es, clk, since, seen.push e.born, clk, hm', hset.1, hold, hsk, hsk, hn, hk, hst, hf, rfl, ?_, ?_, ?_, ?_⟩, by rw [← hc]; exact hsh, ?_, ?_, hent⟩
    · simp only [List.length_append, List.length_cons, List.length_nil]; omega
    · rw [List.map_append, List.nodup_append]
      exact ⟨hnd, by simp, fun a ha b hb => by simp at hb; subst hb; rintro rfl; exact hnot ha⟩
    · intro p hp
      rcases List.mem_append.1 hp with hp | hp
      · exact hps p hp
      · simp at hp; subst hp; rw [hfs, hkv]
    · intro x hx
      rw [contains_push, Bool.or_eq_true, hseen x hx, List.map_append, List.mem_append]
      refine or_congr Iff.rfl ?_
      simp only [List.map_cons, List.map_nil, List.mem_singleton]
      constructor
      · intro hb
        have hb' : x.born = e.born := by simpa using hb
        have := inj_of_nodup hst.2.1 hx hem hb'
        rw [this, hs]
      · intro hb
        have : x = e := inj_of_nodup hst.2.2 hx hem (by rw [hb, hs])
        rw [this]; simp
    · rcases hal with rfl | rfl <;> exact ⟨rfl, rfl, rfl, by simp [setBlock], fun i _ hi => hset.2 i (fun e1 => hi (by rw [e1]))⟩
    · rcases hal with rfl | rfl <;> simp [setBlock]

set_option maxRecDepth 100000 in
theorem all_in (F : Fence) (n : Nat) (hf : F.fn 61) (hro : F.round = none) (mb : Option Nat) (w : World) :
    CallsIn F n Try.prog 61 #[.map mb] w fun e w' => e = .returned (.func (.func 75) #[] #[.pointer (some ⟨w.heap.size, 0, none⟩)]) ∧ w' = w.alloc (.cells #[.map mb] 81) := by
  refine callsIn_of_wp Try.func61 rfl hf ?_ hro
  simp only [Try.ntmps61, List.size_toArray, List.length_cons, List.length_nil, Nat.reduceAdd, Nat.reduceSub, Array.replicate_succ, Array.replicate_zero, List.push_toArray, List.append_toArray, List.nil_append, List.cons_append]
  gi_wp2
  go_ret
  exact ⟨rfl, rfl⟩
end Go.Proofs.Ytoichcjlfpijeaa
