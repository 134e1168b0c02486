/- QuotaAsks: the walk in the row's form. -/
import Derived.Test.YtoichcjlfpijeaaAsks
import Derived.Test.YtoichcjlfpijeaaQOpen
namespace Go.Proofs.Ytoichcjlfpijeaa
open Go.RowKit Go.Bl Go.Deep Go.WideShapes
section
variable {H : Type} {enc : TypeId × Value → H} {w : World} {base : Nat} {spare : Nat → Bool} {held : Bool}
set_option maxRecDepth 100000 in
theorem asks_open {fuel : Nat} {A : Option Addr} {len cap : Nat} {x : DataW H × List MemPlace} (h : DataW.trod enc Try.prog w base spare held fuel 32 [.slice A len cap] = some x) : ∃ a, AsksAt w A len a := by
  rcases open_slice Try.underlying32 h with ⟨hcs, _⟩ | ⟨a, len', cap', m, n, D, Pl, hcs, hb, hl, hm, hmm, _, hel⟩
  · simp only [List.cons.injEq, Value.slice.injEq, and_true] at hcs
    obtain ⟨rfl, rfl, rfl⟩ := hcs
    exact ⟨fun _ => 0, by omega, fun i hi => by omega⟩
  · simp only [List.cons.injEq, Value.slice.injEq, and_true] at hcs
    obtain ⟨rfl, rfl, rfl⟩ := hcs
    have e2 : Try.prog.cellsOf 2 = 1 := by kernel_rfl
    rw [e2] at hel
    have hle : len ≤ m := by rw [hmm]; split <;> omega
    have key : ∀ i, i < len → ∃ o : Int, w.cell? (a.add i) = some (.int .i64 o) := fun i hi => by
      obtain ⟨cs', h1, h2⟩ := hel i (by omega)
      rw [Nat.mul_one] at h1
      obtain ⟨hb, hlc, hcell⟩ := World.cells?_some h1
      obtain ⟨n0, q0, _, _⟩ := DataW.trod_int Try.underlying2 h2
      refine ⟨n0, ?_⟩
      have g0 := hcell 0 (by omega)
      rw [q0] at g0
      simpa [Addr.add] using g0
    obtain ⟨l, hl'⟩ := choose_lt key
    unfold maxLen at hm
    exact ⟨l, by omega, fun i hi => ⟨a, rfl, hl' i hi⟩⟩
end
theorem qas (A : Option Addr) (len cap : Nat) (l : Nat → QOp) (B : Option Addr) (alen acap : Nat) (a : Nat → Int) (w : World) (hl : OpsAt w A len l) (ha : AsksAt w B alen a) :
    Calls Try.prog 4 #[.slice A len cap, .slice B alen acap] w fun e w' => e = .returned (.bool true) ∧ Fr [] w w' := asks_any A len cap l B alen acap a w hl ha
end Go.Proofs.Ytoichcjlfpijeaa
