/- Parse. -/
import Derived.Test.YtaniaknphjnlkaaGreatDoorLqClos
import Derived.Test.YtaniaknphjnlkaaGreatDoorMf05
import Derived.Shelf.Unicode.ValidAny
import Derived.Laws.EntriesVeiled
import Derived.Test.YtaniaknphjnlkaaGreatDoorLqMatch
import Derived.Test.YtaniaknphjnlkaaGreatDoorLqHas
import Derived.Test.YtaniaknphjnlkaaGreatDoorLqLacks
namespace Go.Proofs.YtaniaknphjnlkaaGreatDoor
open Go.RowKit Go.Bl Go.Lq

def zeroQ : Qy := ⟨[], 0, [], 0⟩
def parseP (V : Bs → Bool) (l : Bs) : Qy × Int × Nat :=
  if 1024 < l.length then (zeroQ, 4, 0) else match readL l with
  | .bad r => (zeroQ, 131, l.length - r.length)
  | .ok q _ => if rightQ V q ≠ 0 then (zeroQ, rightQ V q, 0) else (q, 0, 0)
/-- What Right says, as Parse asks it. -/
def RightC : Prop := ∀ (w : World) (v : Value) (q : Qy), GV w → 8 ≤ w.heap.size → QyV w v q → Calls Tryz.prog 12 #[v] w fun e w' => e = .returned (.int .i64 (rightQ Lib.validD q)) ∧ Fr [] w w'
def ParsePost (s : ByteArray) (w : World) (e : Ending) (w' : World) : Prop :=
  Fr [] w w' ∧ ∃ v, e = .returned (.tuple #[v, .int .i64 (parseP Lib.validD s.data.toList).2.1, .int .i64 ((parseP Lib.validD s.data.toList).2.2 : Nat)]) ∧ QyV w' v (parseP Lib.validD s.data.toList).1

theorem ParsePost.of {s : ByteArray} {w w' : World} (hF : Fr [] w w') {v x4 x5 : Value} {q : Qy} {why : Int} {n : Nat} (hp : parseP Lib.validD s.data.toList = (q, why, n)) (hv : QyV w' v q) (h4 : x4 = .int .i64 why) (h5 : x5 = .int .i64 (n : Int)) :
    ParsePost s w (.returned (.tuple #[v, x4, x5])) w' := by
  refine ⟨hF, v, ?_, ?_⟩
  · rw [hp, h4, h5]
  · rw [hp]; exact hv
theorem QyV.zero (w : World) : QyV w (.agg #[.slice none 0 0, .int .i64 0, .slice none 0 0, .int .i64 0]) zeroQ := ⟨_, _, rfl, Mts.nil w, Mts.nil w⟩
section
variable {tmps : Array Value} {H : Nat} {R : Ending → World → Prop} {w : World} {x0 x1 x2 x3 x4 x5 : Value}
theorem parse_results (h2 : tmps[2]? = some (.pointer (some ⟨H, 0, none⟩))) (h3 : tmps[3]? = some (.pointer (some ⟨H + 1, 0, none⟩))) (h4 : tmps[4]? = some (.pointer (some ⟨H + 2, 0, none⟩))) (hO : Outs w H x0 x1 x2 x3 x4 x5) (hR : R (.returned (.tuple #[.agg #[x0, x1, x2, x3], x4, x5])) w) :
    Leaves Tryz.prog Tryz.f6 tmps R [] .returning w := by
  have k0 := cell_of hO.q 0
  have k1 := cell_of hO.q 1
  have k2 := cell_of hO.q 2
  have k3 := cell_of hO.q 3
  have k4 := cell_of hO.why 0
  have k5 := cell_of hO.at_ 0
  simp only [List.getElem?_toArray, List.getElem?_cons_zero, List.getElem?_cons_succ] at k0 k1 k2 k3 k4 k5
  exact ⟨_, by simp [results, Tryz.results6, go_sem, h2, h3, h4, k0, k1, k2, k3, k4, k5], hR⟩
theorem parse_panics {p : Int} (h2 : tmps[2]? = some (.pointer (some ⟨H, 0, none⟩))) (h3 : tmps[3]? = some (.pointer (some ⟨H + 1, 0, none⟩))) (h4 : tmps[4]? = some (.pointer (some ⟨H + 2, 0, none⟩))) (hO : Outs w H x0 x1 x2 x3 x4 x5)
    (hR : ∀ w', Outs w' H (.slice none 0 0) (.int .i64 0) (.slice none 0 0) (.int .i64 0) (.int .i64 131) (.int .i64 p) → Fr [H, H + 1, H + 2] w w' → R (.returned (.tuple #[.agg #[.slice none 0 0, .int .i64 0, .slice none 0 0, .int .i64 0], .int .i64 131, .int .i64 p])) w') :
    Leaves Tryz.prog Tryz.f6 tmps R [{ target := .fn (.func 19) #[.pointer (some ⟨H, 0, none⟩), .pointer (some ⟨H + 1, 0, none⟩), .pointer (some ⟨H + 2, 0, none⟩)], args := #[] }] (.panicking [{ v := .iface 44 (.int .i64 p), recovered := false }]) w := by
  refine leaves_cons (f := 19) (args := #[.pointer (some ⟨H, 0, none⟩), .pointer (some ⟨H + 1, 0, none⟩), .pointer (some ⟨H + 2, 0, none⟩)]) (by simp) (by simp [go_sem]) ?_
  refine (catch_panicking H p [] w _ _ _ _ _ _ hO).mono ?_
  rintro e u' w' ⟨rfl, rfl, hO', hF⟩
  exact parse_results h2 h3 h4 hO' (hR w' hO' hF)
theorem parse_returns (h2 : tmps[2]? = some (.pointer (some ⟨H, 0, none⟩))) (h3 : tmps[3]? = some (.pointer (some ⟨H + 1, 0, none⟩))) (h4 : tmps[4]? = some (.pointer (some ⟨H + 2, 0, none⟩))) (hO : Outs w H x0 x1 x2 x3 x4 x5) (hR : R (.returned (.tuple #[.agg #[x0, x1, x2, x3], x4, x5])) w) :
    Leaves Tryz.prog Tryz.f6 tmps R [{ target := .fn (.func 19) #[.pointer (some ⟨H, 0, none⟩), .pointer (some ⟨H + 1, 0, none⟩), .pointer (some ⟨H + 2, 0, none⟩)], args := #[] }] .returning w := by
  refine leaves_cons (f := 19) (args := #[.pointer (some ⟨H, 0, none⟩), .pointer (some ⟨H + 1, 0, none⟩), .pointer (some ⟨H + 2, 0, none⟩)]) (by simp) (by simp [go_sem]) ?_
  refine (catch_idle H w).mono ?_
  rintro e u' w' ⟨rfl, rfl, rfl⟩
  exact parse_results h2 h3 h4 hO hR
end

theorem row_shape {w : World} {B : Nat} {e : TypeId} {size : Nat} {v : Value} {n : Nat} {xs : List Value} (h : w.ownsRow B e size v n xs) : ∃ A len cap, v = .slice A len cap := by
  rcases h.2 with ⟨rfl, _⟩ | ⟨g, cap, cur, rfl, _⟩
  · exact ⟨_, _, _, rfl⟩
  · exact ⟨_, _, _, rfl⟩
def stepsObj (B : Nat) : Obj := .cells #[.string ⟨#[124, 61]⟩, .func (.func 21) #[.pointer (some ⟨B, 0, none⟩)] #[], .string ⟨#[33, 61]⟩, .func (.func 22) #[.pointer (some ⟨B, 0, none⟩)] #[], .string ⟨#[124]⟩, .func (.func 23) #[.pointer (some ⟨B, 0, none⟩)] #[]] 49 (0, 0)
structure StepsIn (B : Nat) (s : ByteArray) (m : Bs) (q : Qy) (c2 c4 : Value) (SB : Nat) (w0 wr : World) : Prop where
  rq : RQ B B s m q c2 c4 wr
  bel : Below B w0 wr
  so : wr.heap[SB]? = some (stepsObj B)
  lt : B < SB
  own : ∀ k, c4.ownBlock = some k → k ≠ SB
def StepsRel (B : Nat) (s : ByteArray) (c2 : Value) (pr : PR Qy) (SB : Nat) (w0 wr : World) : Prop :=
  ∃ f q m c4, StepsIn B s m q c2 c4 SB w0 wr ∧ skipL m = m ∧ stepsLoop f q m = pr ∧ m.length < f
theorem StepsIn.fr1 {B : Nat} {s : ByteArray} {m m' : Bs} {q : Qy} {c2 c4 : Value} {SB : Nat} {w0 wr wx : World} (h : StepsIn B s m q c2 c4 SB w0 wr) (hF : Fr [B] wr wx) (hR : RQ B B s m' q c2 c4 wx) : StepsIn B s m' q c2 c4 SB w0 wx :=
  ⟨hR, h.bel.trans (h.rq.bel1 hF), hF.obj h.so (by have := h.lt; simp; omega), h.lt, h.own⟩
theorem StepsIn.fr4 {B : Nat} {s : ByteArray} {m m' : Bs} {q q' : Qy} {c2 c4 c4' : Value} {SB : Nat} {w0 wr wx : World} (h : StepsIn B s m q c2 c4 SB w0 wr) (hF : Fr (B :: c4.ownBlock.toList) wr wx) (hR : RQ B B s m' q' c2 c4' wx) (hk : ∀ k, c4'.ownBlock = some k → c4.ownBlock = some k ∨ wr.heap.size ≤ k) : StepsIn B s m' q' c2 c4' SB w0 wx :=
  ⟨hR, h.bel.trans (h.rq.bel4 hF), hF.obj h.so (by
    have := h.lt
    simp only [List.mem_cons, Option.mem_toList, not_or]
    exact ⟨by omega, fun e => h.own _ e rfl⟩), h.lt, fun k e => by
      rcases hk k e with e | e
      · exact h.own k e
      · have := lt_of_obj h.so; omega⟩
def InnerRel (B : Nat) (s : ByteArray) (m : Bs) (q : Qy) (c2 c4 : Value) (SB : Nat) (w0 : World) (v : Value) (wx : World) : Prop :=
  ∃ i : Nat, v = .int .i64 (i : Int) ∧ i ≤ 3 ∧ (1 ≤ i → takeL [124, 61] m = none) ∧ (2 ≤ i → takeL [33, 61] m = none) ∧ (3 ≤ i → takeL [124] m = none) ∧ StepsIn B s m q c2 c4 SB w0 wx

set_option maxRecDepth 100000 in
set_option maxHeartbeats 600000 in
theorem parse_any (hC : RightC) (s : ByteArray) {w : World} (hG : GV w) (h8 : 8 ≤ w.heap.size) : Calls Tryz.prog 6 #[.string s] w (ParsePost s w) := by
  have hmf : ∀ (fn : Fn) (first cap : Array Value) (w : World), (Instr.makeFunc fn first cap).run Tryz.prog w = .ok (.func fn first cap) w := fun _ _ _ _ => rfl
  go_enter_defers Tryz.func6, Tryz.ntmps6
  obtain ⟨W3, hW3⟩ : ∃ W3, ((w.alloc (.cells #[.slice none 0 0, .int .i64 0, .slice none 0 0, .int .i64 0] 24)).alloc (.cells #[.int .i64 0] 25)).alloc (.cells #[.int .i64 0] 3) = W3 := ⟨_, rfl⟩
  have hO : Outs W3 w.heap.size (.slice none 0 0) (.int .i64 0) (.slice none 0 0) (.int .i64 0) (.int .i64 0) (.int .i64 0) := by
    rw [← hW3]
    refine ⟨Go.Bl.heap_alloc_old (Go.Bl.heap_alloc_old (heap_alloc w _) _) _, ?_, ?_⟩
    · have := heap_alloc (w.alloc (.cells #[.slice none 0 0, .int .i64 0, .slice none 0 0, .int .i64 0] 24)) (.cells #[.int .i64 0] 25)
      rw [size_alloc'] at this
      exact Go.Bl.heap_alloc_old this _
    · have := heap_alloc ((w.alloc (.cells #[.slice none 0 0, .int .i64 0, .slice none 0 0, .int .i64 0] 24)).alloc (.cells #[.int .i64 0] 25)) (.cells #[.int .i64 0] 3)
      rw [size_alloc', size_alloc'] at this
      exact this
  have hF3 : Fr [] w W3 := by rw [← hW3]; exact (((Fr.refl _ _).alloc _).alloc _).alloc _
  have hSz : W3.heap.size = w.heap.size + 3 := by rw [← hW3]; simp
  have k0 := cell_of hO.q 0
  have k1 := cell_of hO.q 1
  have k2 := cell_of hO.q 2
  have k3 := cell_of hO.q 3
  have k4 := cell_of hO.why 0
  have k5 := cell_of hO.at_ 0
  have z0 := frozen_of hO.q 0
  have z1 := frozen_of hO.q 1
  have z2 := frozen_of hO.q 2
  have z3 := frozen_of hO.q 3
  have z4 := frozen_of hO.why 0
  have z5 := frozen_of hO.at_ 0
  simp only [List.getElem?_toArray, List.getElem?_cons_zero, List.getElem?_cons_succ] at k0 k1 k2 k3 k4 k5
  by_cases hs : 1024 < s.size
  · have hs2 : (s.size : Int) > 1024 := by omega
    go_wp2_with fail
    (try rw [hW3])
    go_step3
    go_wp2_with fail
    rw [Exit.noGoto_ret]
    have hp : parseP Lib.validD s.data.toList = (zeroQ, 4, 0) := by
      unfold parseP
      rw [if_pos (by rw [bytes_len]; exact hs)]
    obtain ⟨hO2, hF2⟩ := hO.store (.slice none 0 0) (.int .i64 0) (.slice none 0 0) (.int .i64 0) (.int .i64 4) (.int .i64 0)
    exact parse_results (H := w.heap.size) rfl rfl rfl hO2 (ParsePost.of (hF3.new hF2 (by simp)) hp (QyV.zero _) rfl rfl)
  · have hs3 : s.size ≤ 1024 := by omega
    go_wp2_with fail
    (try rw [hW3])
    go_step3
    go_wp2_with fail
    have hb : W3.heap.size = w.heap.size + 3 := hSz
    have hlen := bytes_len s
    have h0 : RQ (w.heap.size + 3) (w.heap.size + 3) s s.data.toList zeroQ (.slice none 0 0) (.slice none 0 0) (W3.alloc (.cells #[.string s, .int .i64 0, .slice none 0 0, .int .i64 0, .slice none 0 0, .int .i64 0] 48)) := by
      refine ⟨⟨?_, List.suffix_refl _, hs3⟩, World.ownsRow_nil _ _ _ _, World.ownsRow_nil _ _ _ _, by simp [Value.ownBlock], by simp [Value.ownBlock], by simp [Value.ownBlock], Nat.le_refl _, by simp [zeroQ, hlen]⟩
      rw [← hb, hlen, Nat.sub_self]
      exact heap_alloc W3 _
    have hO4 := hO.below (B := w.heap.size + 3) ((Below.refl _ W3).alloc (by omega) (.cells #[.string s, .int .i64 0, .slice none 0 0, .int .i64 0, .slice none 0 0, .int .i64 0] 48)) (by omega)
    have hF4 : Fr [] w (W3.alloc (.cells #[.string s, .int .i64 0, .slice none 0 0, .int .i64 0, .slice none 0 0, .int .i64 0] 48)) := hF3.alloc _
    have hG4 : GV (W3.alloc (.cells #[.string s, .int .i64 0, .slice none 0 0, .int .i64 0, .slice none 0 0, .int .i64 0] 48)) := hG.below (B := w.heap.size) (hF4.below (Nat.le_refl _) (by simp)) h8
    have hM := match_any h0 rfl
    clear k0 k1 k2 k3 k4 k5 z0 z1 z2 z3 z4 z5
    have HO := Lib.hid hO4
    have HP : Hid (∀ x, readL s.data.toList = x → parseP Lib.validD s.data.toList = match x with
      | .bad r => (zeroQ, 131, s.size - r.length)
      | .ok q _ => if rightQ Lib.validD q ≠ 0 then (zeroQ, rightQ Lib.validD q, 0) else (q, 0, 0)) := fun x hx => by
      unfold parseP
      rw [if_neg (by rw [hlen]; exact hs), hx, hlen]
    clear hO4 hO h0
    refine hM.mono ?_
    rintro e w5 ⟨B5, h5⟩
    obtain ⟨pm, hpm⟩ : ∃ pm, matchL s.data.toList = pm := ⟨_, rfl⟩
    rw [hpm] at h5
    have hbel : ∀ (w' : World), Below (w.heap.size + 3) (W3.alloc (.cells #[.string s, .int .i64 0, .slice none 0 0, .int .i64 0, .slice none 0 0, .int .i64 0] 48)) w' → Fr [] w w' := fun _ h => ⟨h.os.trans hF4.os, h.tape.trans hF4.tape, h.output.trans hF4.output, Nat.le_trans hF4.size h.size, fun i hi hS => (h.block i (by omega)).trans (hF4.block i hi hS)⟩
    have HB := Lib.hid hbel
    have HG := Lib.hid hG4
    clear hbel hG4 hF4 hF3 hM
    cases pm with
    | bad r =>
      obtain rfl := h5
      go_wp2_with fail
      refine parse_panics (H := w.heap.size) rfl rfl rfl (HO.out.below B5 (by omega)) fun w' hO2 hF2 => ParsePost.of ((HB.out _ B5).new hF2 (by simp)) (HP.out (.bad r) (by unfold readL; rw [hpm])) (QyV.zero _) rfl rfl
    | ok m r =>
    obtain ⟨rfl, c2, h5⟩ := h5
    have hS6 : StepsIn (w.heap.size + 3) s r ⟨m, 0, [], 0⟩ c2 (.slice none 0 0) w5.heap.size (W3.alloc (.cells #[.string s, .int .i64 0, .slice none 0 0, .int .i64 0, .slice none 0 0, .int .i64 0] 48)) (w5.alloc (stepsObj (w.heap.size + 3))) :=
      ⟨h5.next ((Fr.refl _ _).alloc _) ⟨Go.Bl.heap_alloc_old h5.rd.cells _, h5.rd.suf, h5.rd.short⟩ (Nat.le_refl _), B5.trans (h5.bel1 ((Fr.refl _ _).alloc _)), heap_alloc _ _, lt_of_obj h5.rd.cells, by simp [Value.ownBlock]⟩
    obtain ⟨pr, hpr⟩ : ∃ pr, stepsLoop (s.data.toList.length + 1) ⟨m, 0, [], 0⟩ r = pr := ⟨_, rfl⟩
    have hrd : readL s.data.toList = pr := by
      unfold readL
      rw [hpm]
      exact hpr
    have hfew : r.length < s.data.toList.length + 1 := by have := h5.rd.left.1; omega
    have HP2 := Lib.hid (HP.out pr hrd)
    clear HP h5 hpm hrd
    go_wp2_with fail
    go_step3
    go_wp2_with fail
    refine hS6.rq.byteF.mono ?_
    rintro e w7 ⟨rfl, h7, F7⟩
    have H7 : StepsRel (w.heap.size + 3) s c2 pr w5.heap.size (W3.alloc (.cells #[.string s, .int .i64 0, .slice none 0 0, .int .i64 0, .slice none 0 0, .int .i64 0] 48)) w7 :=
      ⟨_, _, skipL r, _, hS6.fr1 F7 h7, skip_skip r, by rw [stepsLoop_skip]; exact hpr, by have := skipL_le r; omega⟩
    clear hS6 h7 F7 hpr hfew B5
    go_wp2_with fail
    go_loopw [] (fun wr => StepsRel (w.heap.size + 3) s c2 pr w5.heap.size (W3.alloc (.cells #[.string s, .int .i64 0, .slice none 0 0, .int .i64 0, .slice none 0 0, .int .i64 0] 48)) wr) (fun wr => s.size - posIn wr (w.heap.size + 3))
    case atStart => exact H7
    case round =>
      clear H7
      obtain ⟨f, q, m, c4, hS, hsk, hf, hlt⟩ := hrel
      have k1 := cell_of hS.rq.rd.cells 1
      simp only [List.getElem?_toArray, List.getElem?_cons_zero, List.getElem?_cons_succ] at k1
      cases f with
      | zero => omega
      | succ f =>
      cases m with
      | nil =>
        have k2 := cell_of hS.rq.rd.cells 2
        have k3 := cell_of hS.rq.rd.cells 3
        have k4 := cell_of hS.rq.rd.cells 4
        have k5 := cell_of hS.rq.rd.cells 5
        simp only [List.getElem?_toArray, List.getElem?_cons_zero, List.getElem?_cons_succ, List.length_nil, Nat.sub_zero] at k1 k2 k3 k4 k5
        rw [stepsLoop_nil hsk] at hf
        have g0 : decide ((s.size : Int) < (s.size : Int)) = false := by simp
        go_wp2_with fail
        obtain ⟨A2, len2, cap2, e2⟩ := row_shape hS.rq.mrow
        obtain ⟨A4, len4, cap4, e4⟩ := row_shape hS.rq.trow
        subst e2 e4
        have hQ : QyV wr (.agg #[.slice A2 len2 cap2, .int .i64 q.level, .slice A4 len4 cap4, .int .i64 q.limit]) q := ⟨_, _, rfl, Mts.ofRow hS.rq.mrow (by have := hS.rq.few; omega), Mts.ofRow hS.rq.trow (by have := hS.rq.few; omega)⟩
        refine (hC wr _ q (HG.out.below hS.bel (by omega)) (by have := lt_of_obj hS.rq.rd.cells; omega) hQ).mono ?_
        rintro e w9 ⟨rfl, F9⟩
        have hO9 := (HO.out.below hS.bel (by omega)).fr F9 (by simp)
        have hR9 := F9.obj hS.rq.rd.cells (by simp)
        have hFw : Fr [] w w9 := (HB.out _ hS.bel).trans F9
        have hQ9 := hQ.fr F9
        have u0 := cell_of hO9.q 0
        have u1 := cell_of hO9.q 1
        have u2 := cell_of hO9.q 2
        have u3 := cell_of hO9.q 3
        have u4 := cell_of hO9.why 0
        have u5 := cell_of hO9.at_ 0
        have z0 := frozen_of hO9.q 0
        have z1 := frozen_of hO9.q 1
        have z2 := frozen_of hO9.q 2
        have z3 := frozen_of hO9.q 3
        have z4 := frozen_of hO9.why 0
        have z5 := frozen_of hO9.at_ 0
        have m2 := cell_of hR9 2
        have m3 := cell_of hR9 3
        have m4 := cell_of hR9 4
        have m5 := cell_of hR9 5
        simp only [List.getElem?_toArray, List.getElem?_cons_zero, List.getElem?_cons_succ] at u0 u1 u2 u3 u4 u5 m2 m3 m4 m5
        have HP3 := HP2.out
        rw [← hf] at HP3
        dsimp only at HP3
        obtain ⟨z, hz⟩ : ∃ z, rightQ Lib.validD q = z := ⟨_, rfl⟩
        rw [hz] at HP3 ⊢
        by_cases hz0 : z = 0
        · subst hz0
          rw [if_neg (by simp)] at HP3
          obtain ⟨hO2, hF2⟩ := hO9.store (.slice A2 len2 cap2) (.int .i64 q.level) (.slice A4 len4 cap4) (.int .i64 q.limit) (.int .i64 0) (.int .i64 0)
          have HM2 := Lib.hid (Mts.ofRow (row_fr (row_fr hS.rq.mrow F9 (by simp)) hF2 (fun k hk hm => by have := (row_old hS.rq.mrow hk).1; simp at hm; omega)) (by have := hS.rq.few; omega))
          have HM4 := Lib.hid (Mts.ofRow (row_fr (row_fr hS.rq.trow F9 (by simp)) hF2 (fun k hk hm => by have := (row_old hS.rq.trow hk).1; simp at hm; omega)) (by have := hS.rq.few; omega))
          have HO2 := Lib.hid hO2
          have HF2 := Lib.hid hF2
          have HQ9 := Lib.hid hQ9
          have HH3 := Lib.hid HP3
          clear hO2 hF2 hQ9 HP3 hO9
          go_wp2_with fail
          rw [Exit.noGoto_ret]
          have hFe := hFw.new HF2.out (by simp)
          exact parse_returns (H := w.heap.size) rfl rfl rfl HO2.out (ParsePost.of hFe HH3.out ⟨_, _, rfl, HM2.out, HM4.out⟩ rfl rfl)
        · have hz1 : (z == 0) = false := by simpa using hz0
          rw [if_pos hz0] at HP3
          obtain ⟨hO2, hF2⟩ := hO9.store (.slice none 0 0) (.int .i64 0) (.slice none 0 0) (.int .i64 0) (.int .i64 z) (.int .i64 0)
          have HO2 := Lib.hid hO2
          have HF2 := Lib.hid hF2
          have HH3 := Lib.hid HP3
          clear hO2 hF2 HP3 hO9
          go_wp2_with fail
          rw [Exit.noGoto_ret]
          exact parse_returns (H := w.heap.size) rfl rfl rfl HO2.out (ParsePost.of (hFw.new HF2.out (by simp)) HH3.out (QyV.zero _) rfl rfl)
      | cons c cs =>
        obtain ⟨m, hm⟩ : ∃ m, c :: cs = m := ⟨_, rfl⟩
        rw [stepsLoop_cons hsk, stepL_cases] at hf
        rw [hm] at hS hf hsk k1 hlt
        have hm1 : 1 ≤ m.length := by rw [← hm]; simp
        have hm2 := hS.rq.rd.left.1
        clear hm
        have g0n : s.size - m.length < s.size := by omega
        have g0 : decide (((s.size - m.length : Nat) : Int) < (s.size : Int)) = true := by simp; omega
        have HPB : Hid (∀ r', pr = .bad r' → parseP Lib.validD s.data.toList = (zeroQ, 131, s.size - r'.length)) := fun r' e => by rw [HP2.out, e]
        go_wp2_with fail
        go_loopw [43] (fun v wx => InnerRel (w.heap.size + 3) s m q c2 c4 w5.heap.size (W3.alloc (.cells #[.string s, .int .i64 0, .slice none 0 0, .int .i64 0, .slice none 0 0, .int .i64 0] 48)) v wx) (fun v _ => 3 - (intOf v).toNat)
        case atStart => exact ⟨0, rfl, by omega, fun h => absurd h (by omega), fun h => absurd h (by omega), fun h => absurd h (by omega), hS⟩
        case round =>
          obtain ⟨i, rfl, hi3, t0, t1, t2, hI⟩ := hrel
          have hi : i = 0 ∨ i = 1 ∨ i = 2 ∨ i = 3 := by omega
          rcases hi with rfl | rfl | rfl | rfl
          · (try dsimp only at hf)
            have y0 := cell_of hI.so 0
            have y1 := cell_of hI.so 1
            simp only [List.getElem?_toArray, List.getElem?_cons_zero, List.getElem?_cons_succ] at y0 y1
            have hI2 : StepsIn (w.heap.size + 3) s m q c2 c4 w5.heap.size (W3.alloc (.cells #[.string s, .int .i64 0, .slice none 0 0, .int .i64 0, .slice none 0 0, .int .i64 0] 48)) (wr.alloc (.cells #[.string ⟨#[124, 61]⟩, .func (.func 21) #[.pointer (some ⟨w.heap.size + 3, 0, none⟩)] #[]] 49)) :=
              hI.fr1 ((Fr.refl _ _).alloc _) (hI.rq.next ((Fr.refl _ _).alloc _) ⟨Go.Bl.heap_alloc_old hI.rq.rd.cells _, hI.rq.rd.suf, hI.rq.rd.short⟩ (Nat.le_refl _))
            have hX := heap_alloc wr (.cells #[.string ⟨#[124, 61]⟩, .func (.func 21) #[.pointer (some ⟨w.heap.size + 3, 0, none⟩)] #[]] 49)
            have hBx : w.heap.size + 3 < wr.heap.size := lt_of_obj hI.rq.rd.cells
            have x0 := cell_of hX 0
            simp only [List.getElem?_toArray, List.getElem?_cons_zero, List.getElem?_cons_succ] at x0
            have HI := Lib.hid hI2
            have HX := Lib.hid hX
            clear hI hI2 hX
            go_wp2_with fail
            refine (HI.out.rq.takeF ⟨#[124, 61]⟩ (by decide)).mono ?_
            rintro e w8 ⟨F8, h8⟩
            change (match takeL [124, 61] m with | some r => _ | none => _) at h8
            obtain ⟨v, hv⟩ : ∃ v, takeL [124, 61] m = v := ⟨_, rfl⟩
            rw [hv] at h8 hf
            cases v with
            | none =>
              obtain ⟨rfl, h8⟩ := h8
              have h8 := HI.out.fr1 F8 h8
              go_wp2_with fail
              exact ⟨⟨1, rfl, by omega, fun _ => hv, fun h => absurd h (by omega), fun h => absurd h (by omega), h8⟩, by simp [intOf]⟩
            | some r =>
              obtain ⟨rfl, h8⟩ := h8
              have h8 := HI.out.fr1 F8 h8
              have hlt1 := takeL_len hv
              simp only [List.length_cons, List.length_nil] at hlt1
              have x1 := cell_of (F8.obj HX.out (by simp; omega)) 1
              simp only [List.getElem?_toArray, List.getElem?_cons_zero, List.getElem?_cons_succ] at x1
              have hC1 := has_any h8.rq
              obtain ⟨ps, hps⟩ : ∃ ps, stepQ q 3 (quotedL r) = ps := ⟨_, rfl⟩
              dsimp only at hf
              rw [hps] at hC1 hf
              have H8 := Lib.hid h8
              clear h8
              go_wp2_with fail
              refine hC1.mono ?_
              rintro e w9 ⟨F9, h9⟩
              cases ps with
              | bad r' =>
                obtain rfl := h9
                go_wp2_with fail
                exact parse_panics (H := w.heap.size) rfl rfl rfl (HO.out.below (H8.out.bel.trans (H8.out.rq.bel4 F9)) (by omega)) fun w' hO2 hF2 => ParsePost.of ((HB.out _ (H8.out.bel.trans (H8.out.rq.bel4 F9))).new hF2 (by simp)) (HPB.out r' hf.symm) (QyV.zero _) rfl rfl
              | ok q' r' =>
                obtain ⟨rfl, c4', h9, hk⟩ := h9
                have h9 := H8.out.fr4 F9 h9 hk
                have hlq := stepQ_len hps
                go_wp2_with fail
                refine h9.rq.byteF.mono ?_
                rintro e w10 ⟨rfl, h10, F10⟩
                have hp10 := h10.pos
                have h10 := h9.fr1 F10 h10
                have hsl := skipL_le r'
                have hml := hS.rq.rd.left.1
                go_wp2_with fail
                refine ⟨⟨f, q', skipL r', c4', h10, skip_skip _, by rw [stepsLoop_skip]; exact hf, by omega⟩, ?_⟩
                rw [hp10, hS.rq.pos]
                omega
          · rw [t0 (by omega)] at hf
            (try dsimp only at hf)
            have y0 := cell_of hI.so 2
            have y1 := cell_of hI.so 3
            simp only [List.getElem?_toArray, List.getElem?_cons_zero, List.getElem?_cons_succ] at y0 y1
            have hI2 : StepsIn (w.heap.size + 3) s m q c2 c4 w5.heap.size (W3.alloc (.cells #[.string s, .int .i64 0, .slice none 0 0, .int .i64 0, .slice none 0 0, .int .i64 0] 48)) (wr.alloc (.cells #[.string ⟨#[33, 61]⟩, .func (.func 22) #[.pointer (some ⟨w.heap.size + 3, 0, none⟩)] #[]] 49)) :=
              hI.fr1 ((Fr.refl _ _).alloc _) (hI.rq.next ((Fr.refl _ _).alloc _) ⟨Go.Bl.heap_alloc_old hI.rq.rd.cells _, hI.rq.rd.suf, hI.rq.rd.short⟩ (Nat.le_refl _))
            have hX := heap_alloc wr (.cells #[.string ⟨#[33, 61]⟩, .func (.func 22) #[.pointer (some ⟨w.heap.size + 3, 0, none⟩)] #[]] 49)
            have hBx : w.heap.size + 3 < wr.heap.size := lt_of_obj hI.rq.rd.cells
            have x0 := cell_of hX 0
            simp only [List.getElem?_toArray, List.getElem?_cons_zero, List.getElem?_cons_succ] at x0
            have HI := Lib.hid hI2
            have HX := Lib.hid hX
            clear hI hI2 hX
            go_wp2_with fail
            refine (HI.out.rq.takeF ⟨#[33, 61]⟩ (by decide)).mono ?_
            rintro e w8 ⟨F8, h8⟩
            change (match takeL [33, 61] m with | some r => _ | none => _) at h8
            obtain ⟨v, hv⟩ : ∃ v, takeL [33, 61] m = v := ⟨_, rfl⟩
            rw [hv] at h8 hf
            cases v with
            | none =>
              obtain ⟨rfl, h8⟩ := h8
              have h8 := HI.out.fr1 F8 h8
              go_wp2_with fail
              exact ⟨⟨2, rfl, by omega, fun _ => t0 (by omega), fun _ => hv, fun h => absurd h (by omega), h8⟩, by simp [intOf]⟩
            | some r =>
              obtain ⟨rfl, h8⟩ := h8
              have h8 := HI.out.fr1 F8 h8
              have hlt1 := takeL_len hv
              simp only [List.length_cons, List.length_nil] at hlt1
              have x1 := cell_of (F8.obj HX.out (by simp; omega)) 1
              simp only [List.getElem?_toArray, List.getElem?_cons_zero, List.getElem?_cons_succ] at x1
              have hC1 := lacks_any h8.rq
              obtain ⟨ps, hps⟩ : ∃ ps, stepQ q 4 (quotedL r) = ps := ⟨_, rfl⟩
              dsimp only at hf
              rw [hps] at hC1 hf
              have H8 := Lib.hid h8
              clear h8
              go_wp2_with fail
              refine hC1.mono ?_
              rintro e w9 ⟨F9, h9⟩
              cases ps with
              | bad r' =>
                obtain rfl := h9
                go_wp2_with fail
                exact parse_panics (H := w.heap.size) rfl rfl rfl (HO.out.below (H8.out.bel.trans (H8.out.rq.bel4 F9)) (by omega)) fun w' hO2 hF2 => ParsePost.of ((HB.out _ (H8.out.bel.trans (H8.out.rq.bel4 F9))).new hF2 (by simp)) (HPB.out r' hf.symm) (QyV.zero _) rfl rfl
              | ok q' r' =>
                obtain ⟨rfl, c4', h9, hk⟩ := h9
                have h9 := H8.out.fr4 F9 h9 hk
                have hlq := stepQ_len hps
                go_wp2_with fail
                refine h9.rq.byteF.mono ?_
                rintro e w10 ⟨rfl, h10, F10⟩
                have hp10 := h10.pos
                have h10 := h9.fr1 F10 h10
                have hsl := skipL_le r'
                have hml := hS.rq.rd.left.1
                go_wp2_with fail
                refine ⟨⟨f, q', skipL r', c4', h10, skip_skip _, by rw [stepsLoop_skip]; exact hf, by omega⟩, ?_⟩
                rw [hp10, hS.rq.pos]
                omega
          · rw [t0 (by omega)] at hf
            rw [t1 (by omega)] at hf
            (try dsimp only at hf)
            have y0 := cell_of hI.so 4
            have y1 := cell_of hI.so 5
            simp only [List.getElem?_toArray, List.getElem?_cons_zero, List.getElem?_cons_succ] at y0 y1
            have hI2 : StepsIn (w.heap.size + 3) s m q c2 c4 w5.heap.size (W3.alloc (.cells #[.string s, .int .i64 0, .slice none 0 0, .int .i64 0, .slice none 0 0, .int .i64 0] 48)) (wr.alloc (.cells #[.string ⟨#[124]⟩, .func (.func 23) #[.pointer (some ⟨w.heap.size + 3, 0, none⟩)] #[]] 49)) :=
              hI.fr1 ((Fr.refl _ _).alloc _) (hI.rq.next ((Fr.refl _ _).alloc _) ⟨Go.Bl.heap_alloc_old hI.rq.rd.cells _, hI.rq.rd.suf, hI.rq.rd.short⟩ (Nat.le_refl _))
            have hX := heap_alloc wr (.cells #[.string ⟨#[124]⟩, .func (.func 23) #[.pointer (some ⟨w.heap.size + 3, 0, none⟩)] #[]] 49)
            have hBx : w.heap.size + 3 < wr.heap.size := lt_of_obj hI.rq.rd.cells
            have x0 := cell_of hX 0
            simp only [List.getElem?_toArray, List.getElem?_cons_zero, List.getElem?_cons_succ] at x0
            have HI := Lib.hid hI2
            have HX := Lib.hid hX
            clear hI hI2 hX
            go_wp2_with fail
            refine (HI.out.rq.takeF ⟨#[124]⟩ (by decide)).mono ?_
            rintro e w8 ⟨F8, h8⟩
            change (match takeL [124] m with | some r => _ | none => _) at h8
            obtain ⟨v, hv⟩ : ∃ v, takeL [124] m = v := ⟨_, rfl⟩
            rw [hv] at h8 hf
            cases v with
            | none =>
              obtain ⟨rfl, h8⟩ := h8
              have h8 := HI.out.fr1 F8 h8
              go_wp2_with fail
              exact ⟨⟨3, rfl, by omega, fun _ => t0 (by omega), fun _ => t1 (by omega), fun _ => hv, h8⟩, by simp [intOf]⟩
            | some r =>
              obtain ⟨rfl, h8⟩ := h8
              have h8 := HI.out.fr1 F8 h8
              have hlt1 := takeL_len hv
              simp only [List.length_cons, List.length_nil] at hlt1
              have x1 := cell_of (F8.obj HX.out (by simp; omega)) 1
              simp only [List.getElem?_toArray, List.getElem?_cons_zero, List.getElem?_cons_succ] at x1
              have hC1 := keyed_any h8.rq (HG.out.below h8.bel (by omega)) (by omega)
              obtain ⟨ps, hps⟩ : ∃ ps, keyedL q r = ps := ⟨_, rfl⟩
              dsimp only at hf
              rw [hps] at hC1 hf
              have H8 := Lib.hid h8
              clear h8
              go_wp2_with fail
              refine hC1.mono ?_
              rintro e w9 ⟨F9, h9⟩
              cases ps with
              | bad r' =>
                obtain rfl := h9
                go_wp2_with fail
                exact parse_panics (H := w.heap.size) rfl rfl rfl (HO.out.below (H8.out.bel.trans (H8.out.rq.bel4 F9)) (by omega)) fun w' hO2 hF2 => ParsePost.of ((HB.out _ (H8.out.bel.trans (H8.out.rq.bel4 F9))).new hF2 (by simp)) (HPB.out r' hf.symm) (QyV.zero _) rfl rfl
              | ok q' r' =>
                obtain ⟨rfl, c4', h9, hk⟩ := h9
                have h9 := H8.out.fr4 F9 h9 hk
                have hlq := keyedL_len hps
                go_wp2_with fail
                refine h9.rq.byteF.mono ?_
                rintro e w10 ⟨rfl, h10, F10⟩
                have hp10 := h10.pos
                have h10 := h9.fr1 F10 h10
                have hsl := skipL_le r'
                have hml := hS.rq.rd.left.1
                go_wp2_with fail
                refine ⟨⟨f, q', skipL r', c4', h10, skip_skip _, by rw [stepsLoop_skip]; exact hf, by omega⟩, ?_⟩
                rw [hp10, hS.rq.pos]
                omega
          · rw [t0 (by omega), t1 (by omega), t2 (by omega)] at hf
            dsimp only at hf
            go_wp2_with fail
            refine (hI.rq.takeF ⟨#[33]⟩ (by decide)).mono ?_
            rintro e w8 ⟨F8, h8⟩
            change (match takeL [33] m with | some r => _ | none => _) at h8
            obtain ⟨v, hv⟩ : ∃ v, takeL [33] m = v := ⟨_, rfl⟩
            rw [hv] at h8 hf
            obtain ⟨r', hr', bb, hbb, h9⟩ : ∃ r', PR.bad r' = pr ∧ ∃ bb, e = .returned (.bool bb) ∧ RQ (w.heap.size + 3) (w.heap.size + 3) s r' q c2 c4 w8 := by
              cases v with
              | none => exact ⟨m, hf, _, h8.1, h8.2⟩
              | some r => exact ⟨r, hf, _, h8.1, h8.2⟩
            subst hbb
            have h8 := hI.fr1 F8 h9
            go_wp2_with fail
            refine h8.rq.badF.mono ?_
            rintro e w9 ⟨rfl, F9⟩
            have B9 := h8.bel.trans (h8.rq.bel1 F9)
            go_wp2_with fail
            exact parse_panics (H := w.heap.size) rfl rfl rfl (HO.out.below B9 (by omega)) fun w' hO2 hF2 => ParsePost.of ((HB.out _ B9).new hF2 (by simp)) (HPB.out r' hr'.symm) (QyV.zero _) rfl rfl
end Go.Proofs.YtaniaknphjnlkaaGreatDoor
