/- A slice of operations that came in. -/
import Derived.Test.YtoichcjlfpijeaaBase
namespace Go.Proofs.Ytoichcjlfpijeaa
open Go.RowKit Go.Bl

structure QOp where
  kind : Int
  name : ByteArray
  rate : Int
  burst : Int
  cost : Int
  now : Int

/-- Six cells of an operation from an address on. -/
def OpAt (w : World) (ad : Addr) (o : QOp) : Prop :=
  w.cell? ad = some (.int .i64 o.kind) ∧ w.cell? ⟨ad.block, ad.off + 1, none⟩ = some (.string o.name) ∧ w.cell? ⟨ad.block, ad.off + 2, none⟩ = some (.int .i64 o.rate) ∧
  w.cell? ⟨ad.block, ad.off + 3, none⟩ = some (.int .i64 o.burst) ∧ w.cell? ⟨ad.block, ad.off + 4, none⟩ = some (.int .i64 o.cost) ∧ w.cell? ⟨ad.block, ad.off + 5, none⟩ = some (.int .i64 o.now)

structure OpsAt (w : World) (A : Option Addr) (len : Nat) (l : Nat → QOp) : Prop where
  max : len ≤ 9223372036854775807
  op : ∀ i, i < len → ∃ ad, A = some ad ∧ OpAt w (ad.add (i * 6)) (l i)
  kinds : ∀ i, i < len → -9223372036854775808 ≤ (l i).kind ∧ (l i).kind ≤ 9223372036854775807
  costs : ∀ i, i < len → -9223372036854775808 ≤ (l i).cost ∧ (l i).cost ≤ 9223372036854775807
  nows : ∀ i, i < len → -9223372036854775808 ≤ (l i).now ∧ (l i).now ≤ 9223372036854775807

theorem cell_fr {w w' : World} {S : List Nat} (hF : Fr S w w') {a : Addr} {v : Value} (h : w.cell? a = some v) (hS : a.block ∉ S) : w'.cell? a = some v := by
  have hl := World.block_lt_of_cell? w a h
  rw [World.cell?_of_block (w := w) (hF.block a.block hl hS)]; exact h
theorem OpsAt.fr {w w' : World} {A : Option Addr} {len : Nat} {l : Nat → QOp} (h : OpsAt w A len l) (hF : Fr [] w w') : OpsAt w' A len l :=
  ⟨h.max, fun i hi => by
    obtain ⟨ad, e, h0, h1, h2, h3, h4, h5⟩ := h.op i hi
    exact ⟨ad, e, cell_fr hF h0 (by simp), cell_fr hF h1 (by simp), cell_fr hF h2 (by simp), cell_fr hF h3 (by simp), cell_fr hF h4 (by simp), cell_fr hF h5 (by simp)⟩, h.kinds, h.costs, h.nows⟩
end Go.Proofs.Ytoichcjlfpijeaa
