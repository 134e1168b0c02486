/- attr.sign. -/
import Derived.Test.YtaniaknphjnlkaaGreatDoorLqRd
namespace Go.Proofs.YtaniaknphjnlkaaGreatDoor
open Go.RowKit Go.Bl Go.Lq
set_option maxRecDepth 100000 in
theorem sign_any (n : Int) (w : World) : Calls Tryz.prog 66 #[.int .i64 n] w fun e w' => e = .returned (.string ⟨(signP n).toArray⟩) ∧ w' = w := by
  by_cases h1 : n = 1
  · subst h1
    go_enter Tryz.func66, Tryz.ntmps66
    go_wp2
    go_ret
    exact ⟨rfl, rfl⟩
  · by_cases h2 : n = 2
    · subst h2
      go_enter Tryz.func66, Tryz.ntmps66
      go_wp2
      go_ret
      exact ⟨rfl, rfl⟩
    · by_cases h3 : n = 3
      · subst h3
        go_enter Tryz.func66, Tryz.ntmps66
        go_wp2
        go_ret
        exact ⟨rfl, rfl⟩
      · by_cases h4 : n = 4
        · subst h4
          go_enter Tryz.func66, Tryz.ntmps66
          go_wp2
          go_ret
          exact ⟨rfl, rfl⟩
        · have e1 : (n == 1) = false := by simpa using h1
          have e2 : (n == 2) = false := by simpa using h2
          have e3 : (n == 3) = false := by simpa using h3
          have e4 : (n == 4) = false := by simpa using h4
          have es : signP n = [] := by unfold signP; rw [if_neg h1, if_neg h2, if_neg h3, if_neg h4]
          rw [es]
          clear es h1 h2 h3 h4
          go_enter Tryz.func66, Tryz.ntmps66
          go_wp2
          go_ret
          exact ⟨rfl, rfl⟩
end Go.Proofs.YtaniaknphjnlkaaGreatDoor
