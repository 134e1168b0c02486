/- The reference's table: Next, Counts. -/
import Derived.Test.YtoichcjlfpijeaaROps2
namespace Go.Proofs.Ytoichcjlfpijeaa
open Go.RowKit Go.Bl

section
variable {w : World} {r : Nat} {L : List RB} {F : List Nat}

set_option maxRecDepth 100000 in
set_option maxHeartbeats 8000000 in
theorem rnext_some (h : RTab w r L F) (s : ByteArray) (c now : Int) (hg : good c now) (k : Nat) (x : RB) (hx : L[k]? = some x) (hs : findR L s = k) (ok : x.b.Ok) :
    Calls Try.prog 44 #[ptr r, .string s, .int .i64 c, .int .i64 now] w fun e w' => e = .returned (.tuple #[.int .i64 (nextV (fillM x.b now) c).1, .int .i64 (nextV (fillM x.b now) c).2]) ∧ RTab w' r (L.set k (x.set (fillM x.b now))) F ∧ Fr F w w' := by
  have H := Lib.hid (rat_after h s c now hg k x hx hs ok)
  have ok1 := fillM_ok x.b ok now hg.2.2.1 hg.2.2.2
  obtain ⟨g1, g2, g3, g4⟩ := hg
  have hroom := h.room
  have hk : k < L.length := (List.getElem?_eq_some_iff.1 hx).1
  generalize fillM x.b now = b1 at H ok1 ⊢
  have x1 := ok1.has0
  have x2 := ok1.has1
  have x3 := ok1.burst1
  have x4 := ok1.rate0
  have x5 := ok1.rate1
  have x6 := ok1.part0
  have x7 := ok1.part1
  have x8 := ok1.at0
  have x9 := ok1.at1
  clear h hs ok hx ok1
  by_cases h1 : b1.burst < c
  · have HV : Hid (nextV b1 c = (0, 190)) := if_pos (.inl h1)
    go_enter Try.func44, Try.ntmps44
    go_wp2_with fail
    refine H.out.mono ?_
    rintro e w' ⟨rfl, L1, g, cap, hA⟩
    obtain ⟨d0, d1, d2, d3, d4, d5, d6, d7, d8⟩ := hA.op.c
    have c0 : w'.cell? ⟨r, 0, none⟩ = some (.slice (some ⟨g, 0, none⟩) L1.length cap) := cell_of hA.op.hr 0
    dsimp only [RB.set] at d0 d1 d2 d3 d4 d5 d6 d7 d8
    have hk1 := hA.k1
    go_wp2_with fail
    go_ret2
    rw [HV.out]
    exact ⟨rfl, (hA.eq ▸ hA.tab : RTab w' r (L.set k (x.set b1)) F).fr ((Fr.refl [] w').alloc _) (fun _ _ => by simp), hA.fr.alloc _⟩
  by_cases h2 : c ≤ b1.has
  · have HV : Hid (nextV b1 c = (b1.at_, 0)) := by rw [nextV, if_neg (by omega), if_pos h2]; exact rfl
    have h2' : ¬ b1.has < c := by omega
    go_enter Try.func44, Try.ntmps44
    go_wp2_with fail
    refine H.out.mono ?_
    rintro e w' ⟨rfl, L1, g, cap, hA⟩
    obtain ⟨d0, d1, d2, d3, d4, d5, d6, d7, d8⟩ := hA.op.c
    have c0 : w'.cell? ⟨r, 0, none⟩ = some (.slice (some ⟨g, 0, none⟩) L1.length cap) := cell_of hA.op.hr 0
    dsimp only [RB.set] at d0 d1 d2 d3 d4 d5 d6 d7 d8
    have hk1 := hA.k1
    go_wp2_with fail
    go_ret2
    rw [HV.out]
    exact ⟨rfl, (hA.eq ▸ hA.tab : RTab w' r (L.set k (x.set b1)) F).fr ((Fr.refl [] w').alloc _) (fun _ _ => by simp), hA.fr.alloc _⟩
  have h2' : b1.has < c := by omega
  by_cases h3 : b1.rate = 0
  · have HV : Hid (nextV b1 c = (0, 190)) := if_pos (.inr ⟨by omega, h3⟩)
    have hrt : (b1.rate == 0) = true := by simp [h3]
    clear h3
    go_enter Try.func44, Try.ntmps44
    go_wp2_with fail
    refine H.out.mono ?_
    rintro e w' ⟨rfl, L1, g, cap, hA⟩
    obtain ⟨d0, d1, d2, d3, d4, d5, d6, d7, d8⟩ := hA.op.c
    have c0 : w'.cell? ⟨r, 0, none⟩ = some (.slice (some ⟨g, 0, none⟩) L1.length cap) := cell_of hA.op.hr 0
    dsimp only [RB.set] at d0 d1 d2 d3 d4 d5 d6 d7 d8
    have hk1 := hA.k1
    go_wp2_with fail
    go_ret2
    rw [HV.out]
    exact ⟨rfl, (hA.eq ▸ hA.tab : RTab w' r (L.set k (x.set b1)) F).fr ((Fr.refl [] w').alloc _) (fun _ _ => by simp), hA.fr.alloc _⟩
  have hrt : (b1.rate == 0) = false := by simp [h3]
  have hrp : 0 < b1.rate := by omega
  have hN0 : 0 ≤ (c - b1.has) * 1000000000 - b1.part := by omega
  have hN1 : (c - b1.has) * 1000000000 - b1.part ≤ 1000000000000000000 := by omega
  have hq0 : 0 ≤ ((c - b1.has) * 1000000000 - b1.part + b1.rate - 1) / b1.rate := Int.ediv_nonneg (by omega) (by omega)
  have hq1 : ((c - b1.has) * 1000000000 - b1.part + b1.rate - 1) / b1.rate ≤ (c - b1.has) * 1000000000 - b1.part + b1.rate - 1 := Int.ediv_le_self _ (by omega)
  have hq9 : ((c - b1.has) * 1000000000 - b1.part + b1.rate - 1) / b1.rate < 2000000000000000000 := by omega
  by_cases h4 : b1.at_ + ((c - b1.has) * 1000000000 - b1.part + b1.rate - 1) / b1.rate ≤ 1125899906842624
  all_goals
    have HV : Hid (nextV b1 c = if b1.at_ + ((c - b1.has) * 1000000000 - b1.part + b1.rate - 1) / b1.rate ≤ 1125899906842624 then (b1.at_ + ((c - b1.has) * 1000000000 - b1.part + b1.rate - 1) / b1.rate, 0) else (0, 1)) := by rw [nextV, if_neg (by omega), if_neg h2]; exact rfl
    first | rw [if_pos h4] at HV | rw [if_neg h4] at HV
    clear h3
    go_enter Try.func44, Try.ntmps44
    go_wp2_with fail
    refine H.out.mono ?_
    rintro e w' ⟨rfl, L1, g, cap, hA⟩
    obtain ⟨d0, d1, d2, d3, d4, d5, d6, d7, d8⟩ := hA.op.c
    have c0 : w'.cell? ⟨r, 0, none⟩ = some (.slice (some ⟨g, 0, none⟩) L1.length cap) := cell_of hA.op.hr 0
    dsimp only [RB.set] at d0 d1 d2 d3 d4 d5 d6 d7 d8
    have hk1 := hA.k1
    go_wp2_with fail
    go_ret2
    rw [HV.out]
    exact ⟨rfl, (hA.eq ▸ hA.tab : RTab w' r (L.set k (x.set b1)) F).fr ((Fr.refl [] w').alloc _) (fun _ _ => by simp), hA.fr.alloc _⟩

theorem rcnt_none (h : RTab w r L F) (s : ByteArray) (hs : findR L s = -1) :
    Calls Try.prog 46 #[ptr r, .string s] w fun e w' => e = .returned (.tuple #[.agg #[.int .i64 0, .int .i64 0, .int .i64 0], .int .i64 5]) ∧ Fr [] w w' := by
  have HF := Lib.hid (fun o => find_any (h.fr ((Fr.refl [] w).alloc o) (fun _ _ => by simp)) s)
  rw [hs] at HF
  clear h hs
  go_enter Try.func46, Try.ntmps46
  go_wp2_with (go_at_call 65; refine (HF.out _).mono ?_; rintro e w' ⟨rfl, rfl⟩)
  exact bodyPost_ret (v := .tuple #[.agg #[.int .i64 0, .int .i64 0, .int .i64 0], .int .i64 5]) (by simp [results, Try.results46, go_sem]) rfl ⟨rfl, (Fr.refl _ _).alloc _⟩
set_option maxRecDepth 100000 in
theorem rcnt_some (h : RTab w r L F) (s : ByteArray) (k : Nat) (x : RB) (hx : L[k]? = some x) (hs : findR L s = k) :
    Calls Try.prog 46 #[ptr r, .string s] w fun e w' => e = .returned (.tuple #[.agg #[.int .i64 x.b.tk, .int .i64 x.b.rf, .int .i64 x.b.cs], .int .i64 0]) ∧ Fr [] w w' := by
  have HF := Lib.hid (fun o => find_any (h.fr ((Fr.refl [] w).alloc o) (fun _ _ => by simp)) s)
  rw [hs] at HF
  obtain ⟨hk, rfl⟩ := List.getElem?_eq_some_iff.1 hx
  obtain ⟨g, cap, hO⟩ := h.open k hk
  obtain ⟨d0, d1, d2, d3, d4, d5, d6, d7, d8⟩ := hO.c
  have c0 : w.cell? ⟨r, 0, none⟩ = some (.slice (some ⟨g, 0, none⟩) L.length cap) := cell_of hO.hr 0
  have lr := lt_of_obj hO.hr
  have lg := World.block_lt_of_cell? w _ d0
  have hroom := h.room
  clear h hs hx hO
  dsimp only at lg
  go_enter Try.func46, Try.ntmps46
  go_wp2_with (go_at_call 65; refine (HF.out _).mono ?_; rintro e w' ⟨rfl, rfl⟩)
  exact bodyPost_ret (v := .tuple #[.agg #[.int .i64 (L[k]).b.tk, .int .i64 (L[k]).b.rf, .int .i64 (L[k]).b.cs], .int .i64 0]) (by simp [results, Try.results46, go_sem]) rfl ⟨rfl, (Fr.refl _ _).alloc _⟩
end
end Go.Proofs.Ytoichcjlfpijeaa
