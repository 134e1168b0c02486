/- attr.sign. -/
import Derived.Test.YtaniaknphjnlkaaGreatDoorMf02
import Derived.Test.YtaniaknphjnlkaaGreatDoorSMap
import Derived.Carry
namespace Go.Proofs.YtaniaknphjnlkaaGreatDoor
open Go.RowKit Go.Bl Go.Lq
set_option maxRecDepth 100000 in
theorem sign_any (n : Int) (w : World) : Calls Tryz.prog 66 #[.int .i64 n] w fun e w' => e = .returned (.string ⟨(signP n).toArray⟩) ∧ w' = w := by
  by_cases h1 : n = 1
  · subst h1
    go_enter Tryz.func66, Tryz.ntmps66
    go_wp2
    go_ret
    exact ⟨rfl, rfl⟩
  · by_cases h2 : n = 2
    · subst h2
      go_enter Tryz.func66, Tryz.ntmps66
      go_wp2
      go_ret
      exact ⟨rfl, rfl⟩
    · by_cases h3 : n = 3
      · subst h3
        go_enter Tryz.func66, Tryz.ntmps66
        go_wp2
        go_ret
        exact ⟨rfl, rfl⟩
      · by_cases h4 : n = 4
        · subst h4
          go_enter Tryz.func66, Tryz.ntmps66
          go_wp2
          go_ret
          exact ⟨rfl, rfl⟩
        · have e1 : (n == 1) = false := by simpa using h1
          have e2 : (n == 2) = false := by simpa using h2
          have e3 : (n == 3) = false := by simpa using h3
          have e4 : (n == 4) = false := by simpa using h4
          have es : signP n = [] := by unfold signP; rw [if_neg h1, if_neg h2, if_neg h3, if_neg h4]
          rw [es]
          clear es h1 h2 h3 h4
          go_enter Tryz.func66, Tryz.ntmps66
          go_wp2
          go_ret
          exact ⟨rfl, rfl⟩
end Go.Proofs.YtaniaknphjnlkaaGreatDoor
namespace Go.Proofs.YtaniaknphjnlkaaGreatDoor
open Go.RowKit Go.Bl Go.Lq

def lit1 : Array MapEntry := #[{ key := .bool true, val := .string ⟨#[124, 61, 32]⟩, born := 0 }]
def lit2 : Array MapEntry := #[{ key := .bool true, val := .string ⟨#[124, 61, 32]⟩, born := 0 }, { key := .bool false, val := .string ⟨#[33, 61, 32]⟩, born := 1 }]
theorem run_checkKey_bool (em : Bool) (w : World) (b : Bool) : (Instr.checkKey em 10000 4 (.bool b)).run Tryz.prog w = .ok () w := by
  unfold Instr.checkKey
  simp [run_underlying Tryz.underlying4, Result.andThen]
theorem put_lit1 {w : World} {H : Nat} (hm : w.heap[H]? = some (.map #[] 0)) : (Instr.mapUpdate 72 (.map (some H)) (.bool true) (.string ⟨#[124, 61, 32]⟩)).run Tryz.prog w = .ok () (w.put H (.map lit1 1)) := by
  simp [Instr.mapUpdate, run_underlying Tryz.underlying72, MapKept.run_getObj_map hm, run_checkKey_bool, Instr.findKey, run_underlying Tryz.underlying4, Instr.findNow, MapKept.run_setObj_map _ hm, Result.andThen, World.put, lit1]
theorem put_lit2 {w : World} {H : Nat} (hm : w.heap[H]? = some (.map lit1 1)) : (Instr.mapUpdate 72 (.map (some H)) (.bool false) (.string ⟨#[33, 61, 32]⟩)).run Tryz.prog w = .ok () (w.put H (.map lit2 2)) := by
  simp [Instr.mapUpdate, run_underlying Tryz.underlying72, MapKept.run_getObj_map hm, run_checkKey_bool, Instr.findKey, run_underlying Tryz.underlying4, Instr.findNow, Instr.sameNow, MapKept.run_setObj_map _ hm, Result.andThen, World.put, lit1, lit2]
theorem get_lit {w : World} {H : Nat} (hm : w.heap[H]? = some (.map lit2 2)) (b : Bool) : (Instr.lookup 72 (.map (some H)) (.bool b) false).run Tryz.prog w = .ok (.string (if b then ⟨#[124, 61, 32]⟩ else ⟨#[33, 61, 32]⟩)) w := by
  cases b <;> simp [Instr.lookup, run_underlying Tryz.underlying72, MapKept.run_getObj_map hm, run_checkKey_bool, Instr.findKey, run_underlying Tryz.underlying4, Instr.findNow, Instr.sameNow, Result.andThen, lit2]
end Go.Proofs.YtaniaknphjnlkaaGreatDoor
