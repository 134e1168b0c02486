/- Lists of matchers that can be read. -/
import Derived.Test.YtaniaknphjnlkaaGreatDoorLqRQ
namespace Go.Proofs.YtaniaknphjnlkaaGreatDoor
open Go.RowKit Go.Bl Go.Lq

def MtAt (w : World) (ad : Addr) (m : Mt) : Prop :=
  w.cell? ad = some (.int .i64 m.op) ∧ w.cell? ⟨ad.block, ad.off + 1, none⟩ = some (.string ⟨m.key.toArray⟩) ∧ w.cell? ⟨ad.block, ad.off + 2, none⟩ = some (.string ⟨m.val.toArray⟩)
/-- The slice v holds l. -/
def Mts (w : World) (v : Value) (l : List Mt) : Prop :=
  ∃ A cap, v = .slice A l.length cap ∧ l.length ≤ 9223372036854775807 ∧ ∀ i (h : i < l.length), ∃ ad, A = some ad ∧ MtAt w (ad.add (i * 3)) l[i]
theorem cell_frS {w w' : World} {S : List Nat} (hF : Fr S w w') {a : Addr} {v : Value} (h : w.cell? a = some v) (hS : a.block ∉ S) : w'.cell? a = some v := by
  have hl := World.block_lt_of_cell? w a h
  rw [World.cell?_of_block (w := w) (hF.block a.block hl hS)]; exact h
theorem MtAt.fr {w w' : World} {ad : Addr} {m : Mt} (h : MtAt w ad m) (hF : Fr [] w w') : MtAt w' ad m :=
  ⟨cell_frS hF h.1 (by simp), cell_frS hF h.2.1 (by simp), cell_frS hF h.2.2 (by simp)⟩
theorem Mts.fr {w w' : World} {v : Value} {l : List Mt} (h : Mts w v l) (hF : Fr [] w w') : Mts w' v l := by
  obtain ⟨A, cap, e, hl, hx⟩ := h
  exact ⟨A, cap, e, hl, fun i hi => by obtain ⟨ad, ha, hm⟩ := hx i hi; exact ⟨ad, ha, hm.fr hF⟩⟩
theorem Mts.nil (w : World) : Mts w (.slice none 0 0) [] := ⟨none, 0, rfl, by simp, fun i hi => absurd hi (by simp)⟩
theorem mtCells_get : ∀ (l : List Mt) (i : Nat) (h : i < l.length), (mtCells l)[i * 3]? = some (.int .i64 l[i].op) ∧ (mtCells l)[i * 3 + 1]? = some (.string ⟨l[i].key.toArray⟩) ∧ (mtCells l)[i * 3 + 2]? = some (.string ⟨l[i].val.toArray⟩)
  | m :: l, 0, _ => ⟨rfl, rfl, rfl⟩
  | m :: l, i + 1, h => by
    have ih := mtCells_get l i (by simpa using h)
    have e : mtCells (m :: l) = .int .i64 m.op :: .string ⟨m.key.toArray⟩ :: .string ⟨m.val.toArray⟩ :: mtCells l := rfl
    rw [e, show (i + 1) * 3 = i * 3 + 1 + 1 + 1 by omega]
    simpa using ih
theorem add_at (g j : Nat) : (⟨g, 0, none⟩ : Addr).add j = ⟨g, j, none⟩ := by unfold Addr.add; split <;> simp_all
theorem Mts.ofRow {w : World} {B : Nat} {v : Value} {l : List Mt} (h : w.ownsRow B 56 3 v l.length (mtCells l)) (hl : l.length ≤ 9223372036854775807) : Mts w v l := by
  rcases hr : h.2 with ⟨rfl, h0⟩ | ⟨g, cap, cur, rfl, hb, hg, rest⟩
  · have : l = [] := List.eq_nil_of_length_eq_zero h0
    subst this
    exact Mts.nil w
  · refine ⟨_, _, rfl, hl, fun i hi => ⟨_, rfl, ?_⟩⟩
    have hc := h.cells (g := g) rfl
    obtain ⟨a0, a1, a2⟩ := mtCells_get l i hi
    have b0 := hc _ _ a0
    have b1 := hc _ _ a1
    have b2 := hc _ _ a2
    rw [add_at] at b0 b1 b2 ⊢
    exact ⟨b0, b1, b2⟩
/-- A query by value. -/
def QyV (w : World) (v : Value) (q : Qy) : Prop := ∃ c2 c4, v = .agg #[c2, .int .i64 q.level, c4, .int .i64 q.limit] ∧ Mts w c2 q.mat ∧ Mts w c4 q.tests
theorem QyV.fr {w w' : World} {v : Value} {q : Qy} (h : QyV w v q) (hF : Fr [] w w') : QyV w' v q := by
  obtain ⟨c2, c4, e, h2, h4⟩ := h
  exact ⟨c2, c4, e, h2.fr hF, h4.fr hF⟩
end Go.Proofs.YtaniaknphjnlkaaGreatDoor
