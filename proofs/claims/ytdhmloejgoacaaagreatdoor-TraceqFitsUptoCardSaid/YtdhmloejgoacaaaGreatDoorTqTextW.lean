/- traceq.text: a query's text. (Printed by gentext.py.) -/
import Derived.Test.YtdhmloejgoacaaaGreatDoorMw37
import Derived.Test.YtdhmloejgoacaaaGreatDoorMw35
import Derived.Laws.AppendOwnNone
set_option linter.unusedVariables false
set_option linter.unusedSimpArgs false
namespace Go.Proofs.YtdhmloejgoacaaaGreatDoor
open Go.RowKit Go.Bl Go.Lq Go.Tq

theorem wpList_app_strs {w : World} {ops : Array Oper} {rest : List Oper} {o : Oper} {a : Act} {Q : Exit → Act → World → Prop} (hgd : o.guard = none) (s x : Operand)
    (ho : o.op = .call { callee := .builtin .append, args := #[s, x], argTypes := #[107, 107] }) (B : Nat) (v u : Value) (ps ws : List Bs) (hs : a.eval s = v) (hown : w.ownsRow B 9 1 v ps.length (strsOf ps))
    (hx : a.eval x = u) (hU : Strs w u ws) (hb : B ≤ w.heap.size) (hlen : ps.length + ws.length ≤ 1000)
    (h : ∀ v' w', w'.ownsRow B 9 1 v' (ps ++ ws).length (strsOf (ps ++ ws)) → Fr v.ownBlock.toList w w' → wpList Tryz.prog ops Q rest (a.put o.dst v') w') : wpList Tryz.prog ops Q (o :: rest) a w := by
  obtain ⟨i0, hi0, hz0, hz1, hz2⟩ := info_parts infoStr
  obtain ⟨A, cap, rfl, h0, hc⟩ := hU
  cases A with
  | none =>
    obtain rfl := h0 rfl
    have hws : ws = [] := by
      cases ws with
      | nil => rfl
      | cons y ys =>
        obtain ⟨ad, ha, _⟩ := hc 0 (.string ⟨y.toArray⟩) rfl
        cases ha
    subst hws
    refine wpList_append_own_none hgd s x 107 ho B 9 i0 1 Tryz.underlying107 hi0 v ps.length (strsOf ps) hs hown hx ?_
    refine h v w ?_ (Fr.refl _ _)
    rw [List.append_nil]
    exact hown
  | some ad =>
    refine wpList_append_own w hgd s x 107 ho B 9 i0 _ 1 _ Tryz.underlying107 hi0 hz0 hz1 hz2 rfl (by omega) v ps.length (strsOf ps) hs hown ad ws.length cap (strsOf ws) hx (by simp [strsOf]) (fun j y hj => ?_) (fun y hy => ?_) (by unfold maxLen; omega) (by omega) hb ?_
    · obtain ⟨ad', ha, hc2⟩ := hc j y hj
      cases ha
      exact hc2
    · unfold strsOf at hy
      obtain ⟨b, _, rfl⟩ := List.mem_map.1 hy
      rfl
    · intro v' w' h1 h2 _
      refine h v' w' ?_ (fr_grown h2)
      rw [List.length_append, show strsOf (ps ++ ws) = strsOf ps ++ strsOf ws by simp [strsOf]]
      exact h1
/-- The row's block is not the parts'. -/
theorem row_not {w : World} {B : Nat} {v : Value} {x : Bs} {l : List Bs} (h : w.ownsRow B 9 1 v (x :: l).length (strsOf (x :: l))) {P : Nat} {T : TypeId} {t0 : TypeId} {v0 : Value} {cs : List Value}
    (hP : w.heap[P]? = some (.cells (.iface t0 v0 :: cs).toArray T (0, 0))) : P ∉ v.ownBlock.toList := by
  intro hk
  rw [Option.mem_toList] at hk
  rcases hr : h.2 with ⟨rfl, h0⟩ | ⟨g, cap, cur, rfl, hb, hg, rest⟩
  · cases hk
  · have hgp : g = P := by simpa [Value.ownBlock] using hk
    subst hgp
    have := h.cells (g := g) rfl 0 (.string ⟨x.toArray⟩) rfl
    rw [add_at', cell_of hP] at this
    simp at this
theorem meth_testPart (n : Nat) (v : Value) (w : World) : (method (n + 1) 130 v "belfry/traceq.words").run Tryz.prog w = .ok (244, v) w := by kernel_rfl
theorem meth_hasPart (n : Nat) (v : Value) (w : World) : (method (n + 1) 131 v "belfry/traceq.words").run Tryz.prog w = .ok (245, v) w := by kernel_rfl
theorem meth_limitPart (n : Nat) (v : Value) (w : World) : (method (n + 1) 132 v "belfry/traceq.words").run Tryz.prog w = .ok (246, v) w := by kernel_rfl
def TxRel (B P : Nat) (pc : List Value) (ws : List (List Bs)) (w : World) (vi vl : Value) (wr : World) : Prop :=
  ∃ i : Nat, vi = .int .i64 (i : Int) ∧ i ≤ ws.length ∧ wr.ownsRow B 9 1 vl (wSpans :: (ws.take i).flatten).length (strsOf (wSpans :: (ws.take i).flatten)) ∧ wr.heap[P]? = some (.cells pc.toArray 135 (0, 0)) ∧ Fr [] w wr
theorem txJoin {q : Tq} (hok : TOk q) {ws : List (List Bs)} (hws : partsW q = ws) {B : Nat} {v : Value} {w : World} (h : w.ownsRow B 9 1 v (wSpans :: ws.flatten).length (strsOf (wSpans :: ws.flatten))) :
    Calls Tryz.prog 80 #[v, .string ⟨#[32]⟩] w fun e w' => e = .returned (.string ⟨(textT q).toArray⟩) ∧ Fr [] w w' := by
  have hl1 : 0 < (wSpans :: ws.flatten).length := by simp
  obtain ⟨g, cap, rfl, hg1, hg2⟩ := h.form hl1
  have hcap : (wSpans :: ws.flatten).length ≤ cap := by
    rcases h.2 with ⟨h, _⟩ | ⟨g', cap', cur, h, _, _, h5, _⟩
    · cases h
    · cases h; exact h5
  have htw := text_words hok.has.1 hok.has.2
  rw [hws] at htw
  have hn : (wSpans :: ws.flatten).length ≤ 1000 := by
    have hp := parts_len q
    have hpl : ws.length ≤ 4 := by rw [← hws]; unfold partsW; split <;> simp
    rw [hws] at hp
    have key : ∀ l : List (List Bs), (∀ x ∈ l, x.length ≤ 5) → l.flatten.length ≤ 5 * l.length := by
      intro l
      induction l with
      | nil => intro _; simp
      | cons y ys ih =>
        intro h
        have h1 := h y (by simp)
        have h2 := ih (fun x hx => h x (by simp [hx]))
        rw [List.flatten_cons, List.length_append, List.length_cons]
        omega
    have := key ws hp
    rw [List.length_cons]
    omega
  have hJn := Tryz.strings_Join g 0 cap ((wSpans :: ws.flatten).map fun b => ⟨b.toArray⟩) ⟨#[32]⟩ w (fun j x hx => by
    rw [List.getElem?_map] at hx
    obtain ⟨b, hb, rfl⟩ := Option.map_eq_some_iff.1 hx
    have := h.cells (g := g) rfl j (.string ⟨b.toArray⟩) (by unfold strsOf; rw [List.getElem?_map, hb]; rfl)
    rw [add_at'] at this
    rw [Nat.zero_add]
    exact this) hg2 (by rw [List.length_map]; omega) (by rw [List.length_map]; exact hcap) (by
    rw [joinP_inter, List.map_map, map_bytes, show (ByteArray.data ⟨#[32]⟩).toList = ([32] : Bs) from rfl, htw]
    have := text_len hok
    omega)
  rw [List.length_map, joinP_inter, List.map_map, map_bytes, show (ByteArray.data ⟨#[32]⟩).toList = ([32] : Bs) from rfl, htw] at hJn
  refine hJn.mono ?_
  rintro e w' ⟨rfl, hb⟩
  exact ⟨rfl, fr_newR hb []⟩
set_option maxRecDepth 100000 in
set_option maxHeartbeats 4000000 in
theorem textT_any (q : Tq) (v : Value) (w : World) (hG : GV w) (h8 : 8 ≤ w.heap.size) (hv : TqV w v q) (hok : TOk q) :
    Calls Tryz.prog 66 #[v] w fun e w' => e = .returned (.string ⟨(textT q).toArray⟩) ∧ Fr [] w w' := by
  obtain ⟨m1, m2, rfl, hm1, hm2⟩ := hv
  obtain ⟨B, hB⟩ : ∃ B, w.heap.size = B := ⟨_, rfl⟩
  have hF0 : Fr [] w (w.alloc (.cells (QC q m1 m2) 47)) := (Fr.refl _ _).alloc _
  have hX0 := Go.Bl.heap_alloc w (.cells (QC q m1 m2) 47)
  obtain ⟨w0, hw0⟩ : ∃ w0, w.alloc (.cells (QC q m1 m2) 47) = w0 := ⟨_, rfl⟩
  rw [hw0, hB] at hX0
  rw [hw0] at hF0
  go_enter Tryz.func66, Tryz.ntmps66
  go_upto_region 1 with fail
  unfold QC at hw0
  rw [hw0]
  (try rw [hB])
  clear hw0
  have q0 := cell_of hX0 0
  have q1 := cell_of hX0 1
  have q2 := cell_of hX0 2
  have q3 := cell_of hX0 3
  have q4 := cell_of hX0 4
  have q5 := cell_of hX0 5
  have q6 := cell_of hX0 6
  have q7 := cell_of hX0 7
  unfold QC at q0 q1 q2 q3 q4 q5 q6 q7
  simp only [List.getElem?_toArray, List.getElem?_cons_zero, List.getElem?_cons_succ] at q0 q1 q2 q3 q4 q5 q6 q7
  have hrow1 : (w0.alloc (.cells #[.string ⟨#[115, 112, 97, 110, 115]⟩] 9)).ownsRow B 9 1 (.slice (some ⟨w0.heap.size, 0, none⟩) 1 1) 1 (strsOf [wSpans]) := World.ownsRow_lit w0 #[.string ⟨#[115, 112, 97, 110, 115]⟩] 1 (by rw [← hB]; exact hF0.size) (by unfold maxLen; omega) rfl
  have hF1 : Fr [] w (w0.alloc (.cells #[.string ⟨#[115, 112, 97, 110, 115]⟩] 9)) := hF0.alloc _
  have hX1 : (w0.alloc (.cells #[.string ⟨#[115, 112, 97, 110, 115]⟩] 9)).heap[B]? = some (.cells (QC q m1 m2) 47 (0, 0)) := (Fr.refl [] w0).alloc _ |>.obj hX0 (by simp)
  go_upto_region 2 with fail
  obtain ⟨w1, hw1⟩ : ∃ w1, w0.alloc (.cells #[.string ⟨#[115, 112, 97, 110, 115]⟩] 9) = w1 := ⟨_, rfl⟩
  rw [hw1] at hrow1 hF1 hX1 ⊢
  clear hw1 q0 q1 q2 q3 q4 q5 q6 q7
  obtain ⟨R0, hR0⟩ : ∃ R0, w0.heap.size = R0 := ⟨_, rfl⟩
  rw [hR0] at hrow1
  (try rw [hR0])
  obtain ⟨V1, hV1⟩ : ∃ V1, Value.slice (some ⟨R0, 0, none⟩) 1 1 = V1 := ⟨_, rfl⟩
  have q0 := cell_of hX1 0
  have q1 := cell_of hX1 1
  have q2 := cell_of hX1 2
  have q3 := cell_of hX1 3
  have q4 := cell_of hX1 4
  have q5 := cell_of hX1 5
  have q6 := cell_of hX1 6
  have q7 := cell_of hX1 7
  unfold QC at q0 q1 q2 q3 q4 q5 q6 q7
  simp only [List.getElem?_toArray, List.getElem?_cons_zero, List.getElem?_cons_succ] at q0 q1 q2 q3 q4 q5 q6 q7
  go_upto_region 3 with fail
  obtain ⟨P, hP⟩ : ∃ P, w1.heap.size = P := ⟨_, rfl⟩
  obtain ⟨pc, hpc⟩ : ∃ pc : List Value, [Value.iface 130 (.agg #[.string ⟨q.first.name.toArray⟩, .int .i64 q.first.least, m1]), .iface 131 (.int .i64 q.has), .iface 130 (.agg #[.string ⟨q.second.name.toArray⟩, .int .i64 q.second.least, m2]), .iface 132 (.int .i64 q.limit)] = pc := ⟨_, rfl⟩
  obtain ⟨w2, hw2⟩ : ∃ w2, w1.alloc (.cells #[.iface 130 (.agg #[.string ⟨q.first.name.toArray⟩, .int .i64 q.first.least, m1]), .iface 131 (.int .i64 q.has), .iface 130 (.agg #[.string ⟨q.second.name.toArray⟩, .int .i64 q.second.least, m2]), .iface 132 (.int .i64 q.limit)] 135) = w2 := ⟨_, rfl⟩
  have hP2 : w2.heap[P]? = some (.cells pc.toArray 135 (0, 0)) := by rw [← hw2, ← hP, ← hpc]; exact Go.Bl.heap_alloc w1 _
  have hF12 : Fr [] w1 w2 := by rw [← hw2]; exact (Fr.refl _ _).alloc _
  rw [hw2]
  (try rw [hP])
  have hrow2 := row_fr hrow1 hF12 (by simp)
  have hX2 := hF12.obj hX1 (by simp)
  have hF2 := hF1.trans hF12
  clear hw2 hP q0 q1 q2 q3 q4 q5 q6 q7 hrow1 hX1 hF12 hF1 hX0 hF0 hV1 hR0
  have HPC := Lib.hid hpc
  clear hpc
  have q0 := cell_of hX2 0
  have q1 := cell_of hX2 1
  have q2 := cell_of hX2 2
  have q6 := cell_of hX2 6
  have q7 := cell_of hX2 7
  unfold QC at q0 q1 q2 q6 q7
  simp only [List.getElem?_toArray, List.getElem?_cons_zero, List.getElem?_cons_succ] at q0 q1 q2 q6 q7
  by_cases hh : q.has = 0
  · have hh1 : (q.has == 0) = true := by rw [hh]; rfl
    have hws : partsW q = [testW q.first, limitW q.limit] := by unfold partsW; rw [if_pos hh]
    have HWS := Lib.hid hws
    have HH := Lib.hid hh
    clear hws hh
    go_upto_region 5 with fail
    obtain ⟨P2, hPe⟩ : ∃ P2, w2.heap.size = P2 := ⟨_, rfl⟩
    obtain ⟨pc2, hpc⟩ : ∃ pc2 : List Value, [Value.iface 130 (.agg #[.string ⟨q.first.name.toArray⟩, .int .i64 q.first.least, m1]), .iface 132 (.int .i64 q.limit)] = pc2 := ⟨_, rfl⟩
    obtain ⟨w3, hw3⟩ : ∃ w3, w2.alloc (.cells #[.iface 130 (.agg #[.string ⟨q.first.name.toArray⟩, .int .i64 q.first.least, m1]), .iface 132 (.int .i64 q.limit)] 135) = w3 := ⟨_, rfl⟩
    have hP3 : w3.heap[P2]? = some (.cells pc2.toArray 135 (0, 0)) := by rw [← hw3, ← hPe, ← hpc]; exact Go.Bl.heap_alloc w2 _
    have hF23 : Fr [] w2 w3 := by rw [← hw3]; exact (Fr.refl _ _).alloc _
    rw [hw3]
    (try rw [hPe])
    have hrow3 := row_fr hrow2 hF23 (by simp)
    have hF3 := hF2.trans hF23
    clear hw3 hPe q0 q1 q2 q6 q7 hrow2 hX2 hF23 hF2 hP2
    have HPC2 := Lib.hid hpc
    clear hpc
    have H0 : TxRel B P2 pc2 [testW q.first, limitW q.limit] w (.int .i64 0) (.slice (some ⟨R0, 0, none⟩) 1 1) w3 := ⟨0, rfl, by omega, hrow3, hP3, hF3⟩
    clear hrow3 hP3 hF3
    go_wp2_with fail
    go_loopw [3, 33] (fun vl vi wr => TxRel B P2 pc2 [testW q.first, limitW q.limit] w vi vl wr) (fun _ vi _ => 2 - (intOf vi).toNat)
    case atStart => exact H0
    case round =>
      clear H0
      obtain ⟨i, rfl, hi, hrow, hPc, hF⟩ := hrel
      rw [← HPC2.out] at hPc
      have c0 := cell_of hPc 0
      have c1 := cell_of hPc 1
      simp only [List.getElem?_toArray, List.getElem?_cons_zero, List.getElem?_cons_succ] at c0 c1
      have hi2 : i ≤ 2 := hi
      have hBw : B ≤ wr.heap.size := by rw [← hB]; exact hF.size
      have hGr := hG.frn hF h8
      have h8r := Nat.le_trans h8 hF.size
      have hnot := row_not hrow hPc
      have hic : i = 0 ∨ i = 1 ∨ i = 2 := by omega
      rcases hic with rfl | rfl | rfl
      · have hc := testWords_any q.first m1 wr hGr h8r (hm1.fr hF) hok.n1 hok.s1 hok.p1
        have hm := fun n w => meth_testPart n (.agg #[.string ⟨q.first.name.toArray⟩, .int .i64 q.first.least, m1]) w
        go_wp2_with fail
        refine hc.mono ?_
        rintro e w6 ⟨u, rfl, hU, hF6⟩
        have hrow6 := row_fr hrow hF6 (by simp)
        have hB6 := Nat.le_trans hBw hF6.size
        have HS := Lib.hid (And.intro hrow6 (And.intro hU (And.intro hPc hF6)))
        have hF06 := hF.trans hF6
        clear hc hm hrow hU hPc c0 c1
        go_wp2_with (at_builtin; refine wpList_app_strs rfl (.tmp 37) (.tmp 39) rfl B u3 u _ (testW q.first) (by simp [Act.eval]) HS.out.1 (by simp [Act.eval]) HS.out.2.1 hB6 (by have := parts_len q; rw [HWS.out] at this; simp at this ⊢; omega) ?_; intro v7 w7 hrow7 hF7)
        have hP7 := hF7.obj (HS.out.2.2.2.obj HS.out.2.2.1 (by simp)) hnot
        have hF8 : Fr [] w w7 := (hF06.mono (T := u3.ownBlock.toList) (fun i hi => by simp at hi)).trans hF7 |>.mono (fun i hi => .inr (by rw [hB]; exact (row_old HS.out.1 (Option.mem_toList.1 hi)).1))
        have HE := Lib.hid (And.intro hrow7 (And.intro hP7 hF8))
        clear hrow7 hP7 hF8 hF7 hF06 hnot
        go_wp2_with fail
        refine ⟨⟨1, rfl, by show 1 ≤ 2; omega, ?_, by rw [← HPC2.out]; exact HE.out.2.1, HE.out.2.2⟩, by simp [intOf]⟩
        have := HE.out.1
        simpa using this
      · have hc := limitWords_any q.limit hok.limit.1 hok.limit.2 wr hGr
        have hm := fun n w => meth_limitPart n (.int .i64 q.limit) w
        go_wp2_with fail
        refine hc.mono ?_
        rintro e w6 ⟨u, rfl, hU, hF6⟩
        have hrow6 := row_fr hrow hF6 (by simp)
        have hB6 := Nat.le_trans hBw hF6.size
        have HS := Lib.hid (And.intro hrow6 (And.intro hU (And.intro hPc hF6)))
        have hF06 := hF.trans hF6
        clear hc hm hrow hU hPc c0 c1
        go_wp2_with (at_builtin; refine wpList_app_strs rfl (.tmp 37) (.tmp 39) rfl B u3 u _ (limitW q.limit) (by simp [Act.eval]) HS.out.1 (by simp [Act.eval]) HS.out.2.1 hB6 (by have := parts_len q; rw [HWS.out] at this; simp at this ⊢; omega) ?_; intro v7 w7 hrow7 hF7)
        have hP7 := hF7.obj (HS.out.2.2.2.obj HS.out.2.2.1 (by simp)) hnot
        have hF8 : Fr [] w w7 := (hF06.mono (T := u3.ownBlock.toList) (fun i hi => by simp at hi)).trans hF7 |>.mono (fun i hi => .inr (by rw [hB]; exact (row_old HS.out.1 (Option.mem_toList.1 hi)).1))
        have HE := Lib.hid (And.intro hrow7 (And.intro hP7 hF8))
        clear hrow7 hP7 hF8 hF7 hF06 hnot
        go_wp2_with fail
        refine ⟨⟨2, rfl, by show 2 ≤ 2; omega, ?_, by rw [← HPC2.out]; exact HE.out.2.1, HE.out.2.2⟩, by simp [intOf]⟩
        have := HE.out.1
        simpa using this
      · go_wp2_with fail
        refine (txJoin hok HWS.out hrow).mono ?_
        rintro e w9 ⟨rfl, hF9⟩
        go_wp2_with fail
        go_ret
        exact ⟨rfl, hF.trans hF9⟩
  · have hh1 : (q.has == 0) = false := by simpa using hh
    have hws : partsW q = [testW q.first, hasW q.has, testW q.second, limitW q.limit] := by unfold partsW; rw [if_neg hh]
    have HWS := Lib.hid hws
    clear hws hh
    have H0 : TxRel B P pc [testW q.first, hasW q.has, testW q.second, limitW q.limit] w (.int .i64 0) (.slice (some ⟨R0, 0, none⟩) 1 1) w2 := ⟨0, rfl, by omega, hrow2, hP2, hF2⟩
    go_wp2_with fail
    clear hrow2 hP2 hF2 hX2 q0 q1 q2 q6 q7
    go_loopw [3, 33] (fun vl vi wr => TxRel B P pc [testW q.first, hasW q.has, testW q.second, limitW q.limit] w vi vl wr) (fun _ vi _ => 4 - (intOf vi).toNat)
    case atStart => exact H0
    case round =>
      clear H0
      obtain ⟨i, rfl, hi, hrow, hPc, hF⟩ := hrel
      rw [← HPC.out] at hPc
      have c0 := cell_of hPc 0
      have c1 := cell_of hPc 1
      have c2 := cell_of hPc 2
      have c3 := cell_of hPc 3
      simp only [List.getElem?_toArray, List.getElem?_cons_zero, List.getElem?_cons_succ] at c0 c1 c2 c3
      have hi2 : i ≤ 4 := hi
      have hBw : B ≤ wr.heap.size := by rw [← hB]; exact hF.size
      have hGr := hG.frn hF h8
      have h8r := Nat.le_trans h8 hF.size
      have hnot := row_not hrow hPc
      have hic : i = 0 ∨ i = 1 ∨ i = 2 ∨ i = 3 ∨ i = 4 := by omega
      rcases hic with rfl | rfl | rfl | rfl | rfl
      · have hc := testWords_any q.first m1 wr hGr h8r (hm1.fr hF) hok.n1 hok.s1 hok.p1
        have hm := fun n w => meth_testPart n (.agg #[.string ⟨q.first.name.toArray⟩, .int .i64 q.first.least, m1]) w
        go_wp2_with fail
        refine hc.mono ?_
        rintro e w6 ⟨u, rfl, hU, hF6⟩
        have hrow6 := row_fr hrow hF6 (by simp)
        have hB6 := Nat.le_trans hBw hF6.size
        have HS := Lib.hid (And.intro hrow6 (And.intro hU (And.intro hPc hF6)))
        have hF06 := hF.trans hF6
        clear hc hm hrow hU hPc c0 c1 c2 c3
        go_wp2_with (at_builtin; refine wpList_app_strs rfl (.tmp 37) (.tmp 39) rfl B u3 u _ (testW q.first) (by simp [Act.eval]) HS.out.1 (by simp [Act.eval]) HS.out.2.1 hB6 (by have := parts_len q; rw [HWS.out] at this; simp at this ⊢; omega) ?_; intro v7 w7 hrow7 hF7)
        have hP7 := hF7.obj (HS.out.2.2.2.obj HS.out.2.2.1 (by simp)) hnot
        have hF8 : Fr [] w w7 := (hF06.mono (T := u3.ownBlock.toList) (fun i hi => by simp at hi)).trans hF7 |>.mono (fun i hi => .inr (by rw [hB]; exact (row_old HS.out.1 (Option.mem_toList.1 hi)).1))
        have HE := Lib.hid (And.intro hrow7 (And.intro hP7 hF8))
        clear hrow7 hP7 hF8 hF7 hF06 hnot
        go_wp2_with fail
        refine ⟨⟨1, rfl, by show 1 ≤ 4; omega, ?_, by rw [← HPC.out]; exact HE.out.2.1, HE.out.2.2⟩, by simp [intOf]⟩
        have := HE.out.1
        simpa using this
      · have hc := hasWords_any q.has wr
        have hm := fun n w => meth_hasPart n (.int .i64 q.has) w
        go_wp2_with fail
        refine hc.mono ?_
        rintro e w6 ⟨u, rfl, hU, hF6⟩
        have hrow6 := row_fr hrow hF6 (by simp)
        have hB6 := Nat.le_trans hBw hF6.size
        have HS := Lib.hid (And.intro hrow6 (And.intro hU (And.intro hPc hF6)))
        have hF06 := hF.trans hF6
        clear hc hm hrow hU hPc c0 c1 c2 c3
        go_wp2_with (at_builtin; refine wpList_app_strs rfl (.tmp 37) (.tmp 39) rfl B u3 u _ (hasW q.has) (by simp [Act.eval]) HS.out.1 (by simp [Act.eval]) HS.out.2.1 hB6 (by have := parts_len q; rw [HWS.out] at this; simp at this ⊢; omega) ?_; intro v7 w7 hrow7 hF7)
        have hP7 := hF7.obj (HS.out.2.2.2.obj HS.out.2.2.1 (by simp)) hnot
        have hF8 : Fr [] w w7 := (hF06.mono (T := u3.ownBlock.toList) (fun i hi => by simp at hi)).trans hF7 |>.mono (fun i hi => .inr (by rw [hB]; exact (row_old HS.out.1 (Option.mem_toList.1 hi)).1))
        have HE := Lib.hid (And.intro hrow7 (And.intro hP7 hF8))
        clear hrow7 hP7 hF8 hF7 hF06 hnot
        go_wp2_with fail
        refine ⟨⟨2, rfl, by show 2 ≤ 4; omega, ?_, by rw [← HPC.out]; exact HE.out.2.1, HE.out.2.2⟩, by simp [intOf]⟩
        have := HE.out.1
        simpa using this
      · have hc := testWords_any q.second m2 wr hGr h8r (hm2.fr hF) hok.n2 hok.s2 hok.p2
        have hm := fun n w => meth_testPart n (.agg #[.string ⟨q.second.name.toArray⟩, .int .i64 q.second.least, m2]) w
        go_wp2_with fail
        refine hc.mono ?_
        rintro e w6 ⟨u, rfl, hU, hF6⟩
        have hrow6 := row_fr hrow hF6 (by simp)
        have hB6 := Nat.le_trans hBw hF6.size
        have HS := Lib.hid (And.intro hrow6 (And.intro hU (And.intro hPc hF6)))
        have hF06 := hF.trans hF6
        clear hc hm hrow hU hPc c0 c1 c2 c3
        go_wp2_with (at_builtin; refine wpList_app_strs rfl (.tmp 37) (.tmp 39) rfl B u3 u _ (testW q.second) (by simp [Act.eval]) HS.out.1 (by simp [Act.eval]) HS.out.2.1 hB6 (by have := parts_len q; rw [HWS.out] at this; simp at this ⊢; omega) ?_; intro v7 w7 hrow7 hF7)
        have hP7 := hF7.obj (HS.out.2.2.2.obj HS.out.2.2.1 (by simp)) hnot
        have hF8 : Fr [] w w7 := (hF06.mono (T := u3.ownBlock.toList) (fun i hi => by simp at hi)).trans hF7 |>.mono (fun i hi => .inr (by rw [hB]; exact (row_old HS.out.1 (Option.mem_toList.1 hi)).1))
        have HE := Lib.hid (And.intro hrow7 (And.intro hP7 hF8))
        clear hrow7 hP7 hF8 hF7 hF06 hnot
        go_wp2_with fail
        refine ⟨⟨3, rfl, by show 3 ≤ 4; omega, ?_, by rw [← HPC.out]; exact HE.out.2.1, HE.out.2.2⟩, by simp [intOf]⟩
        have := HE.out.1
        simpa using this
      · have hc := limitWords_any q.limit hok.limit.1 hok.limit.2 wr hGr
        have hm := fun n w => meth_limitPart n (.int .i64 q.limit) w
        go_wp2_with fail
        refine hc.mono ?_
        rintro e w6 ⟨u, rfl, hU, hF6⟩
        have hrow6 := row_fr hrow hF6 (by simp)
        have hB6 := Nat.le_trans hBw hF6.size
        have HS := Lib.hid (And.intro hrow6 (And.intro hU (And.intro hPc hF6)))
        have hF06 := hF.trans hF6
        clear hc hm hrow hU hPc c0 c1 c2 c3
        go_wp2_with (at_builtin; refine wpList_app_strs rfl (.tmp 37) (.tmp 39) rfl B u3 u _ (limitW q.limit) (by simp [Act.eval]) HS.out.1 (by simp [Act.eval]) HS.out.2.1 hB6 (by have := parts_len q; rw [HWS.out] at this; simp at this ⊢; omega) ?_; intro v7 w7 hrow7 hF7)
        have hP7 := hF7.obj (HS.out.2.2.2.obj HS.out.2.2.1 (by simp)) hnot
        have hF8 : Fr [] w w7 := (hF06.mono (T := u3.ownBlock.toList) (fun i hi => by simp at hi)).trans hF7 |>.mono (fun i hi => .inr (by rw [hB]; exact (row_old HS.out.1 (Option.mem_toList.1 hi)).1))
        have HE := Lib.hid (And.intro hrow7 (And.intro hP7 hF8))
        clear hrow7 hP7 hF8 hF7 hF06 hnot
        go_wp2_with fail
        refine ⟨⟨4, rfl, by show 4 ≤ 4; omega, ?_, by rw [← HPC.out]; exact HE.out.2.1, HE.out.2.2⟩, by simp [intOf]⟩
        have := HE.out.1
        simpa using this
      · go_wp2_with fail
        refine (txJoin hok HWS.out hrow).mono ?_
        rintro e w9 ⟨rfl, hF9⟩
        go_wp2_with fail
        go_ret
        exact ⟨rfl, hF.trans hF9⟩
end Go.Proofs.YtdhmloejgoacaaaGreatDoor
