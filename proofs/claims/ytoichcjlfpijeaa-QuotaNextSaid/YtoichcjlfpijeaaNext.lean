/- QuotaNext: the walk (over Copy's contract, proved in CopyW2). -/
import Derived.Test.YtoichcjlfpijeaaCopyW2
namespace Go.Proofs.Ytoichcjlfpijeaa
open Go.RowKit Go.Bl

set_option maxRecDepth 100000 in
set_option maxHeartbeats 8000000 in
theorem next_law_any (A : Option Addr) (len cap : Nat) (l : Nat → QOp) (name : ByteArray) (cost now : Int) (w : World) (hl : OpsAt w A len l) :
    Calls Try.prog 7 #[.slice A len cap, .string name, .int .i64 cost, .int .i64 now] w fun e w' => e = .returned (.bool true) ∧ Fr [] w w' := by
  have HL := Lib.hid hl
  have hmax := hl.max
  clear hl
  go_enter Try.func7, Try.ntmps7
  go_wp2_with fail
  refine (played_any A len cap l w HL.out).mono ?_
  rintro e w1 ⟨t, r, F, G, rfl, hb, hF1, hBF, hBG⟩
  have HB := Lib.hid hb.tab
  clear hb
  obtain ⟨T, hT⟩ : ∃ T, (play l (upTo len)).1 = T := ⟨_, rfl⟩
  obtain ⟨n, hn⟩ : ∃ n, (play l (upTo len)).2 = n := ⟨_, rfl⟩
  rw [hT, hn] at HB
  clear hT hn
  have hnx := next_any HB.out name cost now
  have hz := nextR_zero T name cost now
  have ht := next_table T HB.out.ok name cost now
  obtain ⟨n1, e1⟩ : ∃ x, (nextR T name cost now).1 = x := ⟨_, rfl⟩
  obtain ⟨n2, e2⟩ : ∃ x, (nextR T name cost now).2 = x := ⟨_, rfl⟩
  rw [e1, e2] at hnx hz ht
  clear e1 e2
  have HN := Lib.hid hnx
  clear hnx
  by_cases h0 : n2 = 0
  · subst h0
    have ht1 := ht rfl
    clear ht hz
    obtain ⟨ht2, ht3⟩ := ht1
    have hgd : good cost n1 := by
      by_cases g : good cost n1
      · exact g
      · rw [takeR, if_neg g] at ht2; cases ht2
    obtain ⟨_, _, hn0, hn1⟩ := hgd
    have H2 := Lib.hid ht2
    have H3 := Lib.hid ht3
    clear ht2 ht3
    go_wp2_with fail
    refine HN.out.mono ?_
    rintro e w2 ⟨rfl, hT2, hF2⟩
    have HT2 := Lib.hid hT2
    have hG2 := hF1.new hF2 hBF
    clear hT2 hF2
    go_wp2_with fail
    refine (copy_any HT2.out).mono ?_
    rintro e w3 ⟨c, nC, Fc, rfl, hC, hF3, hBC⟩
    have HC := Lib.hid hC
    have HT3 := Lib.hid (HT2.out.fr hF3 (fun _ _ => by simp))
    clear hC
    have hbc : ∀ i ∈ Fc, w.heap.size ≤ i := fun i hi => by have := hBC i hi; have := hG2.size; omega
    have hap : ∀ i ∈ Fc, i ∉ F := fun i hi hm => by have := hBC i hi; have := HT2.out.lt i hm; omega
    go_wp2_with fail
    refine (tok_any HT3.out name now).mono ?_
    rintro e w4 ⟨rfl, hT4, hF4⟩
    have HT4 := Lib.hid hT4
    have HC4 := Lib.hid (HC.out.fr hF4 hap)
    have hG4 := (hG2.trans hF3).new hF4 hBF
    clear hT4
    by_cases hh : tokV (fillT T name cost now) name now < cost
    · obtain ⟨hlt, ht5⟩ := H3.out hh
      have H5 := Lib.hid ht5
      clear ht5
      go_wp2_with fail
      refine (copy_any HT4.out).mono ?_
      rintro e w5 ⟨d, nD, Fd, rfl, hD, hF5, hBD⟩
      have HD := Lib.hid hD
      have HC5 := Lib.hid (HC4.out.fr hF5 (fun _ _ => by simp))
      have hG5 := hG4.trans hF5
      clear hD
      have hbd : ∀ i ∈ Fd, w.heap.size ≤ i := fun i hi => by have := hBD i hi; have := hG4.size; omega
      have hap2 : ∀ i ∈ Fc, i ∉ Fd := fun i hi hm => by have := hBD i hm; have := HC4.out.lt i hi; omega
      go_wp2_with fail
      refine (take_any HD.out name cost (n1 - 1)).mono ?_
      rintro e w6 ⟨he, hT6, hF6⟩
      rw [H5.out] at he
      subst he
      have HC6 := Lib.hid (HC5.out.fr hF6 hap2)
      have hG6 := hG5.new hF6 hbd
      clear hT6
      go_wp2_with fail
      refine (take_any HC6.out name cost n1).mono ?_
      rintro e w7 ⟨he, hT7, hF7⟩
      rw [H2.out] at he
      subst he
      have hG7 := hG6.new hF7 hbc
      clear hT7
      go_wp2_with (go_at_call 12; refine (known_any _).mono ?_; rintro e w8 ⟨rfl, hF8⟩)
      go_ret
      exact ⟨rfl, hG7.trans hF8⟩
    · have hhb : decide (tokV (fillT T name cost now) name now < cost) = false := by simpa using hh
      go_wp2_with fail
      refine (take_any HC4.out name cost n1).mono ?_
      rintro e w7 ⟨he, hT7, hF7⟩
      rw [H2.out] at he
      subst he
      have hG7 := hG4.new hF7 hbc
      clear hT7
      go_wp2_with (go_at_call 12; refine (known_any _).mono ?_; rintro e w8 ⟨rfl, hF8⟩)
      go_ret
      exact ⟨rfl, hG7.trans hF8⟩
  · have hz1 := hz h0
    subst hz1
    clear hz ht
    go_wp2_with (first
      | (go_at_call 32; refine HN.out.mono ?_; rintro e w2 ⟨rfl, hT2, hF2⟩; clear hT2; have hG2 := hF1.new hF2 hBF)
      | (go_at_call 12; refine (known_any _).mono ?_; rintro e w3 ⟨rfl, hF3⟩))
    go_ret
    exact ⟨rfl, hG2.trans hF3⟩
end Go.Proofs.Ytoichcjlfpijeaa
