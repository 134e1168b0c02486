/- The reader with the query that it holds. -/
import Derived.Test.YtdhmloejgoacaaaGreatDoorMw03
import Derived.Test.YtdhmloejgoacaaaGreatDoorMw04
import Derived.Deep.AppendLies
import Derived.OwnWalk
set_option linter.unusedVariables false
set_option linter.unusedSimpArgs false
namespace Go.Proofs.YtdhmloejgoacaaaGreatDoor
open Go.RowKit Go.Bl Go.Lq

theorem infoMt : (Tryz.prog.info? 74).map (fun i => (i.zero, i.size, i.bytes)) = some (some (.agg #[.int .i64 0, .string ⟨#[]⟩, .string ⟨#[]⟩]), 3, 40) := by kernel_rfl
def mtCells (l : List Mt) : List Value := l.flatMap fun m => [.int .i64 m.op, .string ⟨m.key.toArray⟩, .string ⟨m.val.toArray⟩]
theorem mtCells_length (l : List Mt) : (mtCells l).length = l.length * 3 := by
  induction l with
  | nil => rfl
  | cons m l ih => simp [mtCells] at ih ⊢; omega
theorem mtCells_append (l k : List Mt) : mtCells (l ++ k) = mtCells l ++ mtCells k := by simp [mtCells]
theorem row_fr {S : List Nat} {w w' : World} {B : Nat} {e : TypeId} {size : Nat} {v : Value} {n : Nat} {xs : List Value} (h : w.ownsRow B e size v n xs) (hF : Fr S w w') (hne : ∀ k, v.ownBlock = some k → k ∉ S) : w'.ownsRow B e size v n xs := by
  refine ⟨h.1, ?_⟩
  rcases h.2 with hn | ⟨g, cap, cur, rfl, hb, hgg, rest⟩
  · exact .inl hn
  · exact .inr ⟨g, cap, cur, rfl, hb, hF.obj hgg (hne g (by simp [Value.ownBlock])), rest⟩
theorem row_old {w : World} {B : Nat} {e : TypeId} {size : Nat} {v : Value} {n : Nat} {xs : List Value} (h : w.ownsRow B e size v n xs) {k : Nat} (hk : v.ownBlock = some k) : B ≤ k ∧ k < w.heap.size := by
  rcases h.2 with ⟨rfl, _⟩ | ⟨g, cap, cur, rfl, hb, hgg, rest⟩
  · cases hk
  · obtain rfl : g = k := by simpa [Value.ownBlock] using hk
    exact ⟨hb, lt_of_obj hgg⟩
theorem fr_grown {w w' : World} {row : Option Nat} (h : w.grownBy w' row) : Fr row.toList w w' :=
  ⟨h.os, h.tape, h.output, h.size, fun i hi hS => h.block i hi (by rintro e; exact hS (by rw [← e]; simp))⟩
theorem news3 (w : World) (x y z : Value) (T : TypeId) : ∀ j u, [x, y, z][j]? = some u → (w.alloc (.cells #[x, y, z] T)).cell? ((⟨w.heap.size, 0, none⟩ : Addr).add j) = some u := by
  intro j u hj
  have hadd : (⟨w.heap.size, 0, none⟩ : Addr).add j = ⟨w.heap.size, j, none⟩ := by unfold Addr.add; split <;> simp_all
  rw [hadd, cell_of (Bl.heap_alloc w _)]
  simpa using hj

theorem sub4 {i b : Nat} {c d : List Nat} (h : i ∈ b :: d) : i ∈ b :: (c ++ d) := by
  simp only [List.mem_cons, List.mem_append] at h ⊢
  rcases h with h | h
  · exact .inl h
  · exact .inr (.inr h)
theorem sub2 {i b : Nat} {c d : List Nat} (h : i ∈ b :: c) : i ∈ b :: (c ++ d) := by
  simp only [List.mem_cons, List.mem_append] at h ⊢
  rcases h with h | h
  · exact .inl h
  · exact .inr (.inl h)
/-- The reader at b holds the query q; its rows are its own. -/
structure RQ (B b : Nat) (s : ByteArray) (l : Bs) (q : Qy) (c2 c4 : Value) (w : World) : Prop where
  rd : Rd w b s l c2 (.int .i64 q.level) c4 (.int .i64 q.limit)
  mrow : w.ownsRow B 74 3 c2 q.mat.length (mtCells q.mat)
  trow : w.ownsRow B 74 3 c4 q.tests.length (mtCells q.tests)
  ne2 : c2.ownBlock ≠ some b
  ne4 : c4.ownBlock ≠ some b
  ne24 : ∀ k, c2.ownBlock = some k → c4.ownBlock ≠ some k
  base : B ≤ b
  few : q.mat.length + q.tests.length + l.length ≤ s.size

variable {B b : Nat} {s : ByteArray} {l r : Bs} {q : Qy} {c2 c4 : Value} {w w' : World}
theorem RQ.next (h : RQ B b s l q c2 c4 w) (hF : Fr [b] w w') (hR : Rd w' b s r c2 (.int .i64 q.level) c4 (.int .i64 q.limit)) (hl : r.length ≤ l.length) : RQ B b s r q c2 c4 w' :=
  ⟨hR, row_fr h.mrow hF (fun k hk => by simp only [List.mem_singleton]; rintro rfl; exact h.ne2 hk), row_fr h.trow hF (fun k hk => by simp only [List.mem_singleton]; rintro rfl; exact h.ne4 hk), h.ne2, h.ne4, h.ne24, h.base, by have := h.few; omega⟩
theorem RQ.bel (h : RQ B b s l q c2 c4 w) (hF : Fr (b :: (c2.ownBlock.toList ++ c4.ownBlock.toList)) w w') : Below B w w' :=
  hF.below (by have := lt_of_obj h.rd.cells; have := h.base; omega) fun i hi => by
    simp only [List.mem_cons, List.mem_append, Option.mem_toList] at hi
    rcases hi with rfl | hi | hi
    · exact h.base
    · exact (row_old h.mrow hi).1
    · exact (row_old h.trow hi).1
theorem fr_own {b : Nat} {w w' : World} (h : Fr [b] w w') (L : List Nat) : Fr (b :: L) w w' := h.mono fun i hi => .inl (by simp_all)
theorem RQ.bel4 (h : RQ B b s l q c2 c4 w) (hF : Fr (b :: c4.ownBlock.toList) w w') : Below B w w' := h.bel (hF.mono fun i hi => .inl (sub4 hi))
theorem RQ.bel1 (h : RQ B b s l q c2 c4 w) (hF : Fr [b] w w') : Below B w w' := h.bel (hF.mono fun i hi => .inl (by simp_all))
/-- What a step leaves. -/
def StepPost (B b : Nat) (s : ByteArray) (c2 c4 : Value) (pr : PR Qy) (w : World) (e : Ending) (w' : World) : Prop := Fr (b :: c4.ownBlock.toList) w w' ∧ match pr with
      | .ok q r => e = .returned (.tuple #[]) ∧ ∃ c4', RQ B b s r q c2 c4' w' ∧ (∀ k, c4'.ownBlock = some k → c4.ownBlock = some k ∨ w.heap.size ≤ k)
      | .bad r => e = stopAt s r
/-- Behind an append to the tests. -/
theorem RQ.test (h : RQ B b s l q c2 c4 w) {c4' : Value} {t : Mt} {o : Obj} (hF : Fr (b :: c4.ownBlock.toList) w w') (ho : w'.heap[b]? = some o) (hR : Rd (w'.setCell ⟨b, 4, none⟩ c4') b s r c2 (.int .i64 q.level) c4' (.int .i64 q.limit))
    (hrow : w'.ownsRow B 74 3 c4' (q.tests.length + 1) (mtCells (q.tests ++ [t]))) {g : Nat} (hg : c4'.ownBlock = some g) (hat : c4.ownBlock = some g ∨ w.heap.size ≤ g) (hl : r.length < l.length) :
    RQ B b s r { q with tests := q.tests ++ [t] } c2 c4' (w'.setCell ⟨b, 4, none⟩ c4') ∧ Fr (b :: c4.ownBlock.toList) w (w'.setCell ⟨b, 4, none⟩ c4') ∧ (∀ k, c4'.ownBlock = some k → c4.ownBlock = some k ∨ w.heap.size ≤ k) := by
  have hb := lt_of_obj h.rd.cells
  have hF2 : Fr (b :: c4.ownBlock.toList) w (w'.setCell ⟨b, 4, none⟩ c4') := hF.setCell (.inl (by simp)) _
  have hgb : g ≠ b := by
    rintro rfl
    rcases hat with hat | hat
    · exact h.ne4 hat
    · omega
  have hF3 : Fr [b] w' (w'.setCell ⟨b, 4, none⟩ c4') := (Fr.refl _ _).setCell1 4 _
  refine ⟨⟨hR, row_fr h.mrow hF2 ?_, ?_, h.ne2, ?_, ?_, h.base, ?_⟩, hF2, fun k hk => by rw [hg] at hk; cases hk; exact hat⟩
  · intro k hk
    simp only [List.mem_cons, Option.mem_toList, not_or]
    exact ⟨by rintro rfl; exact h.ne2 hk, h.ne24 k hk⟩
  · have : w'.ownsRow B 74 3 c4' (q.tests ++ [t]).length (mtCells (q.tests ++ [t])) := by simpa using hrow
    exact row_fr this hF3 (fun k hk => by rw [hg] at hk; cases hk; simpa using hgb)
  · rw [hg]; simpa using hgb
  · intro k hk
    rw [hg]
    rintro e
    cases e
    rcases hat with hat | hat
    · exact h.ne24 _ hk hat
    · have := (row_old h.mrow hk).2; omega
  · have := h.few
    simp; omega
/-- Behind an append to the matchers. -/
theorem RQ.mat (h : RQ B b s l q c2 c4 w) {c2' : Value} {t : Mt} {o : Obj} (hF : Fr (b :: c2.ownBlock.toList) w w') (ho : w'.heap[b]? = some o) (hR : Rd (w'.setCell ⟨b, 2, none⟩ c2') b s r c2' (.int .i64 q.level) c4 (.int .i64 q.limit))
    (hrow : w'.ownsRow B 74 3 c2' (q.mat.length + 1) (mtCells (q.mat ++ [t]))) {g : Nat} (hg : c2'.ownBlock = some g) (hat : c2.ownBlock = some g ∨ w.heap.size ≤ g) (hl : r.length < l.length) :
    RQ B b s r { q with mat := q.mat ++ [t] } c2' c4 (w'.setCell ⟨b, 2, none⟩ c2') ∧ Below B w (w'.setCell ⟨b, 2, none⟩ c2') := by
  have hb := lt_of_obj h.rd.cells
  have hF2 : Fr (b :: c2.ownBlock.toList) w (w'.setCell ⟨b, 2, none⟩ c2') := hF.setCell (.inl (by simp)) _
  have hgb : g ≠ b := by
    rintro rfl
    rcases hat with hat | hat
    · exact h.ne2 hat
    · omega
  have hF3 : Fr [b] w' (w'.setCell ⟨b, 2, none⟩ c2') := (Fr.refl _ _).setCell1 2 _
  refine ⟨⟨hR, ?_, row_fr h.trow hF2 ?_, ?_, h.ne4, ?_, h.base, ?_⟩, h.bel (hF2.mono fun i hi => .inl (sub2 hi))⟩
  · have : w'.ownsRow B 74 3 c2' (q.mat ++ [t]).length (mtCells (q.mat ++ [t])) := by simpa using hrow
    exact row_fr this hF3 (fun k hk => by rw [hg] at hk; cases hk; simpa using hgb)
  · intro k hk
    simp only [List.mem_cons, Option.mem_toList, not_or]
    exact ⟨by rintro rfl; exact h.ne4 hk, fun e => h.ne24 k e hk⟩
  · rw [hg]; simpa using hgb
  · intro k hk
    rw [hg] at hk
    cases hk
    rintro e
    rcases hat with hat | hat
    · exact h.ne24 _ hat e
    · have := (row_old h.trow e).2; omega
  · have := h.few
    simp; omega
end Go.Proofs.YtdhmloejgoacaaaGreatDoor
namespace Go.Proofs.YtdhmloejgoacaaaGreatDoor
open Go.RowKit Go.Bl Go.Lq

def MtAt (w : World) (ad : Addr) (m : Mt) : Prop :=
  w.cell? ad = some (.int .i64 m.op) ∧ w.cell? ⟨ad.block, ad.off + 1, none⟩ = some (.string ⟨m.key.toArray⟩) ∧ w.cell? ⟨ad.block, ad.off + 2, none⟩ = some (.string ⟨m.val.toArray⟩)
/-- The slice v holds l. -/
def Mts (w : World) (v : Value) (l : List Mt) : Prop :=
  ∃ A cap, v = .slice A l.length cap ∧ l.length ≤ 9223372036854775807 ∧ ∀ i (h : i < l.length), ∃ ad, A = some ad ∧ MtAt w (ad.add (i * 3)) l[i]
theorem cell_frS {w w' : World} {S : List Nat} (hF : Fr S w w') {a : Addr} {v : Value} (h : w.cell? a = some v) (hS : a.block ∉ S) : w'.cell? a = some v := by
  have hl := World.block_lt_of_cell? w a h
  rw [World.cell?_of_block (w := w) (hF.block a.block hl hS)]; exact h
theorem MtAt.fr {w w' : World} {ad : Addr} {m : Mt} (h : MtAt w ad m) (hF : Fr [] w w') : MtAt w' ad m :=
  ⟨cell_frS hF h.1 (by simp), cell_frS hF h.2.1 (by simp), cell_frS hF h.2.2 (by simp)⟩
theorem Mts.fr {w w' : World} {v : Value} {l : List Mt} (h : Mts w v l) (hF : Fr [] w w') : Mts w' v l := by
  obtain ⟨A, cap, e, hl, hx⟩ := h
  exact ⟨A, cap, e, hl, fun i hi => by obtain ⟨ad, ha, hm⟩ := hx i hi; exact ⟨ad, ha, hm.fr hF⟩⟩
theorem Mts.nil (w : World) : Mts w (.slice none 0 0) [] := ⟨none, 0, rfl, by simp, fun i hi => absurd hi (by simp)⟩
theorem mtCells_get : ∀ (l : List Mt) (i : Nat) (h : i < l.length), (mtCells l)[i * 3]? = some (.int .i64 l[i].op) ∧ (mtCells l)[i * 3 + 1]? = some (.string ⟨l[i].key.toArray⟩) ∧ (mtCells l)[i * 3 + 2]? = some (.string ⟨l[i].val.toArray⟩)
  | m :: l, 0, _ => ⟨rfl, rfl, rfl⟩
  | m :: l, i + 1, h => by
    have ih := mtCells_get l i (by simpa using h)
    have e : mtCells (m :: l) = .int .i64 m.op :: .string ⟨m.key.toArray⟩ :: .string ⟨m.val.toArray⟩ :: mtCells l := rfl
    rw [e, show (i + 1) * 3 = i * 3 + 1 + 1 + 1 by omega]
    simpa using ih
theorem add_at (g j : Nat) : (⟨g, 0, none⟩ : Addr).add j = ⟨g, j, none⟩ := by unfold Addr.add; split <;> simp_all
theorem Mts.ofRow {w : World} {B : Nat} {v : Value} {l : List Mt} (h : w.ownsRow B 74 3 v l.length (mtCells l)) (hl : l.length ≤ 9223372036854775807) : Mts w v l := by
  rcases hr : h.2 with ⟨rfl, h0⟩ | ⟨g, cap, cur, rfl, hb, hg, rest⟩
  · have : l = [] := List.eq_nil_of_length_eq_zero h0
    subst this
    exact Mts.nil w
  · refine ⟨_, _, rfl, hl, fun i hi => ⟨_, rfl, ?_⟩⟩
    have hc := h.cells (g := g) rfl
    obtain ⟨a0, a1, a2⟩ := mtCells_get l i hi
    have b0 := hc _ _ a0
    have b1 := hc _ _ a1
    have b2 := hc _ _ a2
    rw [add_at] at b0 b1 b2 ⊢
    exact ⟨b0, b1, b2⟩
/-- A query by value. -/
def QyV (w : World) (v : Value) (q : Qy) : Prop := ∃ c2 c4, v = .agg #[c2, .int .i64 q.level, c4, .int .i64 q.limit] ∧ Mts w c2 q.mat ∧ Mts w c4 q.tests
theorem QyV.fr {w w' : World} {v : Value} {q : Qy} (h : QyV w v q) (hF : Fr [] w w') : QyV w' v q := by
  obtain ⟨c2, c4, e, h2, h4⟩ := h
  exact ⟨c2, c4, e, h2.fr hF, h4.fr hF⟩
end Go.Proofs.YtdhmloejgoacaaaGreatDoor
namespace Go.Proofs.YtdhmloejgoacaaaGreatDoor
open Go.RowKit Go.Bl Go.Lq
variable {B b : Nat} {s : ByteArray} {l r : Bs} {q : Qy} {c2 c4 : Value} {w w' : World}
/-! ### The reader's calls, with its query -/
theorem RQ.drew (h : RQ B b s l q c2 c4 w) : RQ B b s l q c2 c4 w.drew := h.next ((Fr.refl _ _).drew) ⟨h.rd.cells, h.rd.suf, h.rd.short⟩ (Nat.le_refl _)
theorem RQ.drewN (h : RQ B b s l q c2 c4 w) (n : Nat) : RQ B b s l q c2 c4 (w.drewN n) := h.next ((Fr.refl _ _).drewN n) (h.rd.drewN n) (Nat.le_refl _)
/-- What a reading call leaves. -/
def RQ.After {α : Type} (B b : Nat) (s : ByteArray) (q : Qy) (c2 c4 : Value) (pr : PR α) (val : α → Value) (w : World) (e : Ending) (w' : World) : Prop :=
  Fr [b] w w' ∧ Below B w w' ∧ match pr with
    | .ok v r => e = .returned (val v) ∧ RQ B b s r q c2 c4 w'
    | .bad r => e = stopAt s r
theorem RQ.after {α : Type} {pr : PR α} {val : α → Value} {e : Ending} (h : RQ B b s l q c2 c4 w) (hlen : ∀ v r, pr = .ok v r → r.length ≤ l.length)
    (hr : Reads b s c2 (.int .i64 q.level) c4 (.int .i64 q.limit) pr val w e w') : RQ.After B b s q c2 c4 pr val w e w' := by
  refine ⟨hr.1, h.bel1 hr.1, ?_⟩
  have h2 := hr.2
  cases pr with
  | ok v r => exact ⟨h2.1, h.next hr.1 h2.2 (hlen v r rfl)⟩
  | bad r => exact h2
theorem RQ.byte (h : RQ B b s l q c2 c4 w) : Calls Tryz.prog 44 #[.pointer (some ⟨b, 0, none⟩)] w fun e w' =>
      e = .returned (.int .u8 (((skipL l).headD 0).toNat : Int)) ∧ RQ B b s (skipL l) q c2 c4 w' ∧ Below B w w' :=
  (byte_any b s l _ _ _ _ w h.rd).mono fun _ _ hx => ⟨hx.1, h.next hx.2.2 hx.2.1 (skipL_le l), h.bel1 hx.2.2⟩
theorem RQ.byteF (h : RQ B b s l q c2 c4 w) : Calls Tryz.prog 44 #[.pointer (some ⟨b, 0, none⟩)] w fun e w' =>
      e = .returned (.int .u8 (((skipL l).headD 0).toNat : Int)) ∧ RQ B b s (skipL l) q c2 c4 w' ∧ Fr [b] w w' :=
  (byte_any b s l _ _ _ _ w h.rd).mono fun _ _ hx => ⟨hx.1, h.next hx.2.2 hx.2.1 (skipL_le l), hx.2.2⟩
theorem RQ.badF (h : RQ B b s l q c2 c4 w) : Calls Tryz.prog 46 #[.pointer (some ⟨b, 0, none⟩)] w fun e w' => e = stopAt s l ∧ Fr [b] w w' :=
  (bad_any b s l _ _ _ _ w h.rd).mono fun _ _ hx => ⟨hx.1, by rw [hx.2]; exact Fr.refl _ _⟩
theorem RQ.takeF (h : RQ B b s l q c2 c4 w) (t : ByteArray) (ht : t.size ≤ 1024) : Calls Tryz.prog 45 #[.pointer (some ⟨b, 0, none⟩), .string t] w fun e w' => Fr [b] w w' ∧ match takeL t.data.toList l with
      | some r => e = .returned (.bool true) ∧ RQ B b s r q c2 c4 w'
      | none => e = .returned (.bool false) ∧ RQ B b s l q c2 c4 w' :=
  (take_any b s t l _ _ _ _ ht w h.rd).mono fun e w' hx => by
    refine ⟨hx.2.2, ?_⟩
    cases hv : takeL t.data.toList l with
    | none => rw [hv] at hx; exact ⟨hx.1, h.next hx.2.2 hx.2.1 (Nat.le_refl _)⟩
    | some r => rw [hv] at hx; exact ⟨hx.1, h.next hx.2.2 hx.2.1 (by have := takeL_len hv; omega)⟩
theorem RQ.bad (h : RQ B b s l q c2 c4 w) : Calls Tryz.prog 46 #[.pointer (some ⟨b, 0, none⟩)] w fun e w' => e = stopAt s l ∧ Below B w w' :=
  (bad_any b s l _ _ _ _ w h.rd).mono fun _ _ hx => ⟨hx.1, by rw [hx.2]; exact h.bel1 (Fr.refl _ _)⟩
theorem RQ.take (h : RQ B b s l q c2 c4 w) (t : ByteArray) (ht : t.size ≤ 1024) : Calls Tryz.prog 45 #[.pointer (some ⟨b, 0, none⟩), .string t] w fun e w' => Below B w w' ∧ match takeL t.data.toList l with
      | some r => e = .returned (.bool true) ∧ RQ B b s r q c2 c4 w'
      | none => e = .returned (.bool false) ∧ RQ B b s l q c2 c4 w' :=
  (take_any b s t l _ _ _ _ ht w h.rd).mono fun e w' hx => by
    refine ⟨h.bel1 hx.2.2, ?_⟩
    cases hv : takeL t.data.toList l with
    | none => rw [hv] at hx; exact ⟨hx.1, h.next hx.2.2 hx.2.1 (Nat.le_refl _)⟩
    | some r => rw [hv] at hx; exact ⟨hx.1, h.next hx.2.2 hx.2.1 (by have := takeL_len hv; omega)⟩
theorem RQ.key (h : RQ B b s l q c2 c4 w) : Calls Tryz.prog 72 #[.pointer (some ⟨b, 0, none⟩)] w (RQ.After B b s q c2 c4 (keyL l) (fun k => .string ⟨k.toArray⟩) w) :=
  (key_any b s l _ _ _ _ w h.rd).mono fun _ _ hx => h.after (fun _ _ e => Nat.le_of_lt (keyL_len e).1) hx
theorem RQ.op (h : RQ B b s l q c2 c4 w) : Calls Tryz.prog 73 #[.pointer (some ⟨b, 0, none⟩)] w (RQ.After B b s q c2 c4 (opL l) (fun n => .int .i64 n) w) :=
  (op_any b s l _ _ _ _ w h.rd).mono fun _ _ hx => h.after (fun _ _ e => opL_len e) hx
end Go.Proofs.YtdhmloejgoacaaaGreatDoor
