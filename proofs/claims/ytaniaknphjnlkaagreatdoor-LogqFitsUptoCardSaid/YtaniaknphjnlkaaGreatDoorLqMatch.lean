/- The matchers ahead of a query. -/
import Derived.Test.YtaniaknphjnlkaaGreatDoorLqQuo
import Derived.Test.YtaniaknphjnlkaaGreatDoorLqRQC
import Derived.Deep.RegionHeld3
import Derived.Deep.DeepCutAuto
namespace Go.Proofs.YtaniaknphjnlkaaGreatDoor
open Go.RowKit Go.Bl Go.Lq

def MatchRel (B b : Nat) (s : ByteArray) (q : Qy) (c4 : Value) (pr : PR (List Mt)) (w0 : World) (v : Value) (w : World) : Prop := ∃ more : Bool, v = .bool more ∧ Below B w0 w ∧
  (match more with
    | true => ∃ f acc m c2, RQ B b s m { q with mat := acc } c2 c4 w ∧ matchLoop f acc m = pr ∧ m.length < f
    | false => ∃ acc r c2, pr = .ok acc r ∧ RQ B b s r { q with mat := acc } c2 c4 w)
def MatchPost (B b : Nat) (s : ByteArray) (q : Qy) (c4 : Value) (pr : PR (List Mt)) (w : World) (e : Ending) (w' : World) : Prop := Below B w w' ∧ match pr with
      | .ok acc r => e = .returned (.tuple #[]) ∧ ∃ c2', RQ B b s r { q with mat := acc } c2' c4 w'
      | .bad r => e = stopAt s r
theorem RQ.pos {B b : Nat} {s : ByteArray} {l : Bs} {q : Qy} {c2 c4 : Value} {w : World} (h : RQ B b s l q c2 c4 w) : posIn w b = s.size - l.length := posIn_set h.rd

set_option maxRecDepth 100000 in
set_option maxHeartbeats 4000000 in
theorem match_any {B b : Nat} {s : ByteArray} {l : Bs} {q : Qy} {c2 c4 : Value} {w : World} (h : RQ B b s l q c2 c4 w) (hmat : q.mat = []) :
    Calls Tryz.prog 20 #[.pointer (some ⟨b, 0, none⟩)] w (MatchPost B b s q c4 (matchL l) w) := by
  obtain ⟨pr, hpr⟩ : ∃ pr, matchL l = pr := ⟨_, rfl⟩
  rw [hpr]
  go_enter Tryz.func20, Tryz.ntmps20
  go_wp2_with fail
  refine h.byte.mono ?_
  rintro e w1 ⟨rfl, h1, B1⟩
  have hl0 := skipL_le l
  obtain ⟨m, hm⟩ : ∃ m, skipL l = m := ⟨_, rfl⟩
  unfold matchL at hpr
  rw [hm] at h1 hpr hl0
  go_wp2_with fail
  refine (h1.take ⟨#[123]⟩ (by decide)).mono ?_
  rintro e w2 ⟨B2, h2⟩
  have B12 := B1.trans B2
  clear B1 B2
  change (match takeL [123] m with | some r => _ | none => _) at h2
  obtain ⟨v, hv⟩ : ∃ v, takeL [123] m = v := ⟨_, rfl⟩
  rw [hv] at h2 hpr
  cases v with
  | none =>
    obtain ⟨rfl, h2⟩ := h2
    go_wp2_with fail
    refine h2.bad.mono ?_
    rintro e w3 ⟨rfl, B3⟩
    go_wp2_with fail
    rw [← hpr]
    exact ⟨rfl, B12.trans B3, rfl⟩
  | some l1 =>
    obtain ⟨rfl, h2⟩ := h2
    have hl1 := takeL_len hv
    simp only [List.length_cons, List.length_nil] at hl1
    go_wp2_with fail
    refine h2.byte.mono ?_
    rintro e w3 ⟨rfl, h3, B3⟩
    have hl2 := skipL_le l1
    obtain ⟨m1, hm1⟩ : ∃ m, skipL l1 = m := ⟨_, rfl⟩
    (try dsimp only at hpr)
    rw [hm1] at h3 hpr hl2
    go_wp2_with fail
    refine (h3.take ⟨#[125]⟩ (by decide)).mono ?_
    rintro e w4 ⟨B4, h4⟩
    have B14 := (B12.trans B3).trans B4
    clear B12 B3 B4
    change (match takeL [125] m1 with | some r => _ | none => _) at h4
    obtain ⟨v, hv1⟩ : ∃ v, takeL [125] m1 = v := ⟨_, rfl⟩
    rw [hv1] at h4 hpr
    have H0 : ∃ more : Bool, e = .returned (.bool !more) ∧ MatchRel B b s q c4 pr w (.bool more) w4 := by
      cases v with
      | none =>
        obtain ⟨rfl, h4⟩ := h4
        exact ⟨true, rfl, true, rfl, B14, _, [], m1, c2, (by rw [show ({ q with mat := [] } : Qy) = q by cases q; simp_all]; exact h4), hpr, by omega⟩
      | some r =>
        obtain ⟨rfl, h4⟩ := h4
        exact ⟨false, rfl, false, rfl, B14, [], r, c2, hpr.symm, (by rw [show ({ q with mat := [] } : Qy) = q by cases q; simp_all]; exact h4)⟩
    obtain ⟨more, rfl, H0⟩ := H0
    clear h4 hpr B14 h3 h2 h1 h hv hv1
    go_wp2_with fail
    (try rw [Bool.not_not])
    go_loopw [2] (fun v wr => MatchRel B b s q c4 pr w v wr) (fun _ wr => s.size - posIn wr b)
    case atStart => exact H0
    case round =>
      clear H0
      obtain ⟨more, rfl, hB, hM⟩ := hrel
      cases more with
      | false =>
        obtain ⟨acc, r, c2', hpr, hQ⟩ := hM
        go_wp2_with fail
        rw [hpr]
        exact ⟨rfl, .tuple #[], by simp [results, Tryz.results20, go_sem], hB, rfl, _, hQ⟩
      | true =>
        obtain ⟨f, acc, m, c2', h5, hf, hlt⟩ := hM
        cases f with
        | zero => omega
        | succ f =>
        unfold matchLoop at hf
        obtain ⟨pk, hpk⟩ : ∃ pk, keyL m = pk := ⟨_, rfl⟩
        have hK := h5.key
        have hp0 := h5.pos
        rw [hpk] at hf hK
        go_wp2_with fail
        refine hK.mono ?_
        rintro e w6 ⟨_, B6, h6⟩
        have B16 := hB.trans B6
        cases pk with
        | bad r =>
          obtain rfl := h6
          go_wp2_with fail
          rw [← hf]
          exact ⟨rfl, B16, rfl⟩
        | ok k l1 =>
        obtain ⟨rfl, h6⟩ := h6
        have hlk := (keyL_len hpk).1
        dsimp only at hf
        obtain ⟨po, hpo⟩ : ∃ po, opL l1 = po := ⟨_, rfl⟩
        have hO := h6.op
        rw [hpo] at hf hO
        go_wp2_with fail
        refine hO.mono ?_
        rintro e w7 ⟨_, B7, h7⟩
        have B17 := B16.trans B7
        clear B16 B7 B6
        cases po with
        | bad r =>
          obtain rfl := h7
          go_wp2_with fail
          rw [← hf]
          exact ⟨rfl, B17, rfl⟩
        | ok n l2 =>
        obtain ⟨rfl, h7⟩ := h7
        have hlo := opL_len hpo
        dsimp only at hf
        clear hpk hpo hK hO h6 h5
        by_cases hn : n = 0
        · subst hn
          rw [if_pos rfl] at hf
          go_wp2_with fail
          refine h7.bad.mono ?_
          rintro e w8 ⟨rfl, B8⟩
          go_wp2_with fail
          rw [← hf]
          exact ⟨rfl, B17.trans B8, rfl⟩
        · rw [if_neg hn] at hf
          have hn2 : (n == 0) = false := by simpa using hn
          have hQ := quoted_any b s l2 c2' (.int .i64 q.level) c4 (.int .i64 q.limit)
          obtain ⟨pq, hpq⟩ : ∃ pq, quotedL l2 = pq := ⟨_, rfl⟩
          rw [hpq] at hf hQ
          obtain ⟨c3, hc3⟩ : ∃ c3 : Value, .int .i64 q.level = c3 := ⟨_, rfl⟩
          obtain ⟨c5, hc5⟩ : ∃ c5 : Value, .int .i64 q.limit = c5 := ⟨_, rfl⟩
          have hR := h7.rd
          have hrow := h7.mrow
          have hne := h7.ne2
          have hlen : acc.length ≤ 1024 := by have := h7.few; have := hR.short; (try simp only at *); omega
          have hBb : B ≤ w7.heap.size := by have := lt_of_obj hR.cells; have := h7.base; omega
          simp only [hc3, hc5] at hR
          have k4 := cell_of hR.cells 2
          simp only [List.getElem?_toArray, List.getElem?_cons_zero, List.getElem?_cons_succ] at k4
          have hnb : b ∉ c2'.ownBlock.toList := by rw [Option.mem_toList]; exact hne
          obtain ⟨i0, hi0, hz0, hz1, hz2⟩ := info_parts infoMt
          rw [hc3, hc5] at hQ
          have HH := Lib.hid h7
          clear h7
          cases pq with
          | bad r =>
            go_wp2_with fail
            refine wp_region_held_drew (S := fun w' => w'.cell? ⟨b, 2, none⟩ = some c2' ∧ Fr [b] w7 w') (by kernel_rfl) ⟨k4, (Fr.refl _ _).drew⟩ (fun hHeld => ?_)
            refine wpAnyH_take (i := 0) (oi := _) (v := ?_) rfl (by kernel_rfl) (by kernel_rfl) (by kernel_rfl) (fun _ _ _ h => h) (Or.inl ⟨by rfl, ?_⟩) (by assumption) ?_
            rotate_left
            · intro w hSw
              (try dsimp only at hSw)
              go_simp
              all_goals (with_reducible rfl)
            (try simp only [Act.put, List.setIfInBounds_toArray, List.set_cons_zero, List.set_cons_succ])
            refine wpAnyH_take (i := 1) (oi := _) (v := ?_) rfl (by kernel_rfl) (by kernel_rfl) (by kernel_rfl) (fun _ _ _ h => h) (Or.inl ⟨by rfl, ?_⟩) (by assumption) ?_
            rotate_left
            · intro w hSw
              (try dsimp only at hSw)
              go_simp
              all_goals (with_reducible rfl)
            (try simp only [Act.put, List.setIfInBounds_toArray, List.set_cons_zero, List.set_cons_succ])
            refine wpAnyH_take (i := 2) (oi := _) (v := ?_) rfl (by kernel_rfl) (by kernel_rfl) (by kernel_rfl) (fun _ _ _ h => h) (Or.inl ⟨by rfl, ?_⟩) (by assumption) ?_
            rotate_left
            · intro w hSw
              (try dsimp only at hSw)
              go_simp
              all_goals (with_reducible rfl)
            (try simp only [Act.put, List.setIfInBounds_toArray, List.set_cons_zero, List.set_cons_succ])
            refine wpAnyH_take (i := 3) (oi := _) (v := ?_) rfl (by kernel_rfl) (by kernel_rfl) (by kernel_rfl) (fun _ _ _ h => h) (Or.inl ⟨by rfl, ?_⟩) (by assumption) ?_
            rotate_left
            · intro w hSw
              (try dsimp only at hSw)
              go_simp
              all_goals (with_reducible rfl)
            (try simp only [Act.put, List.setIfInBounds_toArray, List.set_cons_zero, List.set_cons_succ])
            refine wpAnyH_take (i := 4) (oi := _) (v := ?_) rfl (by kernel_rfl) (by kernel_rfl) (by kernel_rfl) (fun _ _ _ h => h) (Or.inl ⟨by rfl, ?_⟩) (by assumption) ?_
            rotate_left
            · intro w hSw
              (try dsimp only at hSw)
              go_simp
              all_goals (with_reducible rfl)
            (try simp only [Act.put, List.setIfInBounds_toArray, List.set_cons_zero, List.set_cons_succ])
            refine wpAnyH_take (i := 5) (oi := _) (v := ?_) rfl (by kernel_rfl) (by kernel_rfl) (by kernel_rfl) (fun _ _ _ h => h) (Or.inl ⟨by rfl, ?_⟩) (by assumption) ?_
            rotate_left
            · intro w hSw
              (try dsimp only at hSw)
              go_simp
              all_goals (with_reducible rfl)
            (try simp only [Act.put, List.setIfInBounds_toArray, List.set_cons_zero, List.set_cons_succ])
            refine wpAnyH_take (i := 6) (oi := _) (v := ?_) rfl (by kernel_rfl) (by kernel_rfl) (by kernel_rfl) (fun _ _ _ h => h) (Or.inl ⟨by rfl, ?_⟩) (by assumption) ?_
            rotate_left
            · intro w hSw
              (try dsimp only at hSw)
              go_simp
              all_goals (with_reducible rfl)
            (try simp only [Act.put, List.setIfInBounds_toArray, List.set_cons_zero, List.set_cons_succ])
            refine wpAnyH_take (i := 7) (oi := _) (v := ?_) rfl (by kernel_rfl) (by kernel_rfl) (by kernel_rfl) (fun _ _ _ h => h) (Or.inl ⟨by rfl, ?_⟩) (by assumption) ?_
            rotate_left
            · intro w hSw
              (try dsimp only at hSw)
              go_simp
              all_goals (with_reducible rfl)
            (try simp only [Act.put, List.setIfInBounds_toArray, List.set_cons_zero, List.set_cons_succ])
            refine wpAnyH_take (i := 8) (oi := _) (v := ?_) rfl (by kernel_rfl) (by kernel_rfl) (by kernel_rfl) (fun _ _ _ h => h) (Or.inl ⟨by rfl, ?_⟩) (by assumption) ?_
            rotate_left
            · intro w hSw
              (try dsimp only at hSw)
              go_simp
              all_goals (with_reducible rfl)
            (try simp only [Act.put, List.setIfInBounds_toArray, List.set_cons_zero, List.set_cons_succ])
            refine wpAnyH_ready (rs := [9]) (by kernel_rfl) (by simp) ?_
            refine AllReadyH.cons (o := _) rfl (fun K hK => ?_) ?_
            · go_simp
              refine (hQ w7.drew ⟨hR.cells, hR.suf, hR.short⟩).mono ?_
              rintro e w8 ⟨hF1, rfl⟩
              subst hf
              exact ⟨rfl, B17.trans (HH.out.bel1 hF1.of_drew), rfl⟩
            · exact AllReadyH.nil
          | ok v l3 =>
            have hlr := quotedL_len hpq
            go_upto_region 10 with fail
            go_cut [] (fun wx => Below B w7 wx ∧ ∃ c2'', RQ B b s l3 { q with mat := acc ++ [⟨n, k, v⟩] } c2'' c4 wx)
            case first =>
              go_region_law (first | (refine step_append_lies _ rfl (.tmp 31) (.tmp 37) 22 rfl B 56 i0 _ 3 _ Tryz.underlying22 hi0 hz0 hz1 hz2 rfl (by omega) c2' acc.length (mtCells acc) (by simp [Act.eval]) (HO.out.alloc _) ⟨w1.heap.size, 0, none⟩ 1 1 [.int .i64 n, .string ⟨k.toArray⟩, .string ⟨v.toArray⟩] (by simp [Act.eval]) rfl (news3 w1 _ _ _ _) (by simp [Value.oneCell']) (by omega) (by unfold maxLen; omega) (by omega) (by simp; omega) (w1.heap.size + 1) (by simp) ?_; intro gg cap' w2 hown2 hgrow hat hlt; have hq2 := (fr_grown hgrow).obj (Go.Bl.heap_alloc_old HR.out.cells _) hnb; have hfz := frozen_of hq2 2; have hcl := cell_of hq2 2; simp only [List.getElem?_toArray, List.getElem?_cons_zero, List.getElem?_cons_succ] at hcl) | (go_simp; go_at_call 43; refine (hQ w7.drew ⟨hR.cells, hR.suf, hR.short⟩).mono ?_; rintro e w1 ⟨hF1, rfl, hR1⟩; have j4 := cell_of hR1.cells 2; simp only [List.getElem?_toArray, List.getElem?_cons_zero, List.getElem?_cons_succ] at j4; have j5 : ∀ o, (w1.alloc o).cell? ⟨b, 2, none⟩ = some c2' := (fun o => (cell_of (Go.Bl.heap_alloc_old hR1.cells o) 2).trans rfl); have HO := Lib.hid (row_fr hrow hF1.of_drew (fun k hk => by simp only [List.mem_singleton]; rintro rfl; exact hne hk)); have hs1 := hF1.of_drew.size; have HR := Lib.hid hR1; clear hR1))
              all_goals
                go_wp2_with fail
                go_meet
                have hx := RQ.mat (t := ⟨n, k, v⟩) (r := l3) HH.out (w' := w2) (c2' := .slice (some ⟨gg, 0, none⟩) (acc.length + 1) cap') ?_ hq2 ?_ ?_ (g := gg) rfl ?_ hlr
                · exact ⟨hx.2, _, hx.1⟩
                · exact (((hF1.of_drew.mono (T := b :: c2'.ownBlock.toList) (by simp)).alloc _).trans ((fr_grown hgrow).mono (by simp_all)))
                · rw [hc3, hc5]
                  exact ⟨heap_setCell hq2 2 _, HR.out.suf, HR.out.short⟩
                · rw [mtCells_append]
                  exact hown2
                · rcases hat with hat | hat
                  · exact .inl hat
                  · exact .inr (by omega)
            case rest =>
              obtain ⟨B8, c2'', h8⟩ := hcut
              have B18 := B17.trans B8
              clear B17 B8 HH hR hrow hne hnb k4 hQ
              (try dsimp only at hf)
              go_wp2_with fail
              refine h8.byte.mono ?_
              rintro e w9 ⟨rfl, h9, B9⟩
              have hl9 := skipL_le l3
              obtain ⟨m9, hm9⟩ : ∃ m, skipL l3 = m := ⟨_, rfl⟩
              rw [hm9] at h9 hl9 hf
              go_wp2_with fail
              refine (h9.take ⟨#[125]⟩ (by decide)).mono ?_
              rintro e w10 ⟨B10, h10⟩
              have B110 := (B18.trans B9).trans B10
              clear B18 B9 B10
              change (match takeL [125] m9 with | some r => _ | none => _) at h10
              obtain ⟨v, hv1⟩ : ∃ v, takeL [125] m9 = v := ⟨_, rfl⟩
              rw [hv1] at h10 hf
              cases v with
              | some r =>
                obtain ⟨rfl, h10⟩ := h10
                have hlr1 := takeL_len hv1
                have hp1 := h10.pos
                have hfw := h10.few
                go_wp2_with fail
                refine ⟨⟨false, rfl, B110, _, r, _, hf.symm, h10⟩, ?_⟩
                rw [hp0, hp1]
                simp at *
                omega
              | none =>
                obtain ⟨rfl, h10⟩ := h10
                (try dsimp only at hf)
                go_wp2_with fail
                refine (h10.take ⟨#[44]⟩ (by decide)).mono ?_
                rintro e w11 ⟨B11, h11⟩
                have B111 := B110.trans B11
                clear B110 B11
                change (match takeL [44] m9 with | some r => _ | none => _) at h11
                obtain ⟨v, hv2⟩ : ∃ v, takeL [44] m9 = v := ⟨_, rfl⟩
                rw [hv2] at h11 hf
                cases v with
                | some r =>
                  obtain ⟨rfl, h11⟩ := h11
                  have hlr1 := takeL_len hv2
                  have hp1 := h11.pos
                  have hfw := h11.few
                  go_wp2_with fail
                  refine ⟨⟨true, rfl, B111, f, _, r, _, h11, hf, ?_⟩, ?_⟩
                  · simp at *
                    omega
                  · rw [hp0, hp1]
                    simp at *
                    omega
                | none =>
                  obtain ⟨rfl, h11⟩ := h11
                  go_wp2_with fail
                  refine h11.bad.mono ?_
                  rintro e w12 ⟨rfl, B12⟩
                  go_wp2_with fail
                  rw [← hf]
                  exact ⟨rfl, B111.trans B12, rfl⟩
end Go.Proofs.YtaniaknphjnlkaaGreatDoor
