/- maps.All over a map of strings to pointers: the iterator's steps in a fence, its contract (F75). -/
import Derived.Test.YtoichcjlfpijeaaAllIt
import Derived.Lib.Hide
namespace Go.Proofs.Ytoichcjlfpijeaa
open Go.RowKit Go.Maps Go.Sort Go.Shelf Go.Proofs Go.Bl

section
variable {F : Fence} {nF : Nat} (w : World) {ops : Array Oper} {rest : List Oper} {o : Oper} {a : Act} {Q : Exit → Act → World → Prop}
theorem wpListIn_range_rg (hg : o.guard = none) (mo : Operand) (t : TypeId) (hop : o.op = Op.range t mo) (k e : TypeId) (ht : Try.prog.underlying t = some (.map k e)) (m n : Nat) (f : ByteArray → Option Value)
    (hm : a.eval mo = .map (some m)) (h : MapAt w m f n)
    (hK : ∀ w', Rg w' m w.heap.size f n [] n → w.grownBy w' none → w'.heap.size = w.heap.size + 1 → wpListIn F nF Try.prog ops Q rest (a.put o.dst (.pointer (some ⟨w.heap.size, 0, none⟩))) w') :
    wpListIn F nF Try.prog ops Q (o :: rest) a w := by
  refine wpListIn_plain hg fun K' hK' => ?_
  obtain ⟨es, clk, hb, _⟩ := h.ex
  have hrun := run_range_map w t k e m es clk ht hb
  unfold Oper.wpIn
  refine ⟨?_, ?_⟩
  · simp [Oper.about, hop]
  · rw [Oper.semAt_plain F _ _ (by rw [hop]; intro c hc'; cases hc')]
    simp [execOp, hop, hm, hrun, Result.andThen]
    exact hK' _ _ (hK _ (Rg.start h hb) (World.grownBy_alloc w _ none) (by simp))

theorem wpListIn_next_rg (hg : o.guard = none) (it : Operand) (hop : o.op = Op.next it false) (m r n cnt : Nat) (f : ByteArray → Option Value) (ps : List (ByteArray × Nat))
    (hit : a.eval it = .pointer (some ⟨r, 0, none⟩)) (h : Rg w m r f n ps cnt) (hv : ∀ s v, f s = some v → ∃ k : Nat, v = .pointer (some ⟨k, 0, none⟩))
    (hDone : AllP f ps → wpListIn F nF Try.prog ops Q rest (a.put o.dst (.tuple #[.bool false])) w)
    (hMore : ∀ (s : ByteArray) (k : Nat) (w' : World) (cnt' : Nat), Rg w' m r f n (ps ++ [(s, k)]) cnt' → cnt' < cnt → w.grownBy w' (some r) → w'.heap.size = w.heap.size →
      (Instr.entry (.pointer (some ⟨r, 0, none⟩))).run Try.prog w' = .ok (.tuple #[.string s, .pointer (some ⟨k, 0, none⟩)]) w' → wpListIn F nF Try.prog ops Q rest (a.put o.dst (.tuple #[.bool true, .string s, .pointer (some ⟨k, 0, none⟩)])) w') :
    wpListIn F nF Try.prog ops Q (o :: rest) a w := by
  refine wpListIn_plain hg fun K' hK' => ?_
  unfold Oper.wpIn
  refine ⟨by simp [Oper.about, hop], ?_⟩
  rw [Oper.semAt_plain F _ _ (by rw [hop]; intro c hc'; cases hc')]
  rcases h.next hv o.type with ⟨h0, hrun⟩ | ⟨s, k, w', cnt', hrun, hrg, hlt, hgr, hsz, hen⟩
  · simp [execOp, hop, hit, hrun, Result.andThen]
    exact hK' _ _ (hDone h0)
  · simp [execOp, hop, hit, hrun, Result.andThen]
    exact hK' _ _ (hMore s k w' cnt' hrg hlt hgr hsz hen)
end

/-- What a round keeps: the map that is ranged over; every walk's block from B on. -/
structure KpB (m B : Nat) (W W' : World) : Prop where
  size : W.heap.size ≤ W'.heap.size
  map : W'.heap[m]? = W.heap[m]?
  walk : ∀ (k : Nat) (o : Obj), B ≤ k → W.heap[k]? = some o → o.isWalk = true → W'.heap[k]? = some o
theorem Rg.of_kp {w w' : World} {m r n cnt B : Nat} {f : ByteArray → Option Value} {ps : List (ByteArray × Nat)} (h : Rg w m r f n ps cnt) (hB : B ≤ r) (hk : KpB m B w w') : Rg w' m r f n ps cnt := by
  obtain ⟨es, clk, since, seen, c0, hm, hr, rest⟩ := h
  exact ⟨es, clk, since, seen, c0, hk.map.trans hm, hk.walk r _ hB hr rfl, rest⟩
theorem Rg.iter_walk {w : World} {m r n cnt : Nat} {f : ByteArray → Option Value} {ps : List (ByteArray × Nat)} (h : Rg w m r f n ps cnt) : ∃ o : Obj, w.heap[r]? = some o ∧ o.isWalk = true := by
  obtain ⟨es, clk, since, seen, c0, hm, hr, rest⟩ := h
  exact ⟨_, hr, rfl⟩
theorem Rg.left_eq {w : World} {m r n cnt : Nat} {f : ByteArray → Option Value} {ps : List (ByteArray × Nat)} (h : Rg w m r f n ps cnt) : w.rangeLeft m r = cnt := by
  obtain ⟨es, clk, since, seen, c0, hm, hr, _, _, _, _, _, _, _, hc, _⟩ := h
  unfold World.rangeLeft
  rw [hm, hr]
  exact hc

/-- An entry of the map: a name and where its pointer leads, with the proof that the map holds it. -/
abbrev Ent (f : ByteArray → Option Value) := { p : ByteArray × Nat // f p.1 = some (.pointer (some ⟨p.2, 0, none⟩)) }
abbrev encR {f : ByteArray → Option Value} (p : Ent f) : Array Value := #[.string p.1.1, .pointer (some ⟨p.1.2, 0, none⟩)]
theorem Rg.last {w : World} {m r n cnt : Nat} {f : ByteArray → Option Value} {ps : List (ByteArray × Nat)} {p : ByteArray × Nat} (h : Rg w m r f n (ps ++ [p]) cnt) : f p.1 = some (.pointer (some ⟨p.2, 0, none⟩)) := by
  obtain ⟨es, clk, since, seen, c0, hm, hr, _, _, _, _, _, _, _, _, _, _, hps, _⟩ := h
  exact hps p (by simp)
theorem Rg.fewer {w : World} {m r n cnt : Nat} {f : ByteArray → Option Value} {ps : List (ByteArray × Nat)} (h : Rg w m r f n ps cnt) : (ps.map (·.1)).Nodup := by
  obtain ⟨es, clk, since, seen, c0, hm, hr, _, _, _, _, _, _, _, _, _, hnd, _⟩ := h
  exact hnd

set_option maxRecDepth 100000 in
set_option maxHeartbeats 1000000 in
theorem all1R_in (F : Fence) (nF : Nat) (h8 : F.fn 75) (hro : F.round = none) (hn : 1 ≤ nF) (l Bm m n B : Nat) (f : ByteArray → Option Value) (hv : ∀ s v, f s = some v → ∃ k : Nat, v = .pointer (some ⟨k, 0, none⟩)) (J Jx : List (Ent f) → World → Prop)
    (hY : ∀ pre x W, J pre W → pre.length < n → YieldAt F (nF - 1) Try.prog l (encR x) W fun e W' =>
      (e = .returned (.bool true) ∧ J (pre ++ [x]) W' ∧ KpB m B W W') ∨ (e = .returned (.bool false) ∧ Jx (pre ++ [x]) W'))
    (W : World) (hJ : AbidesFrom W.heap.size J) (hB : B ≤ W.heap.size) (hm : W.cell? ⟨Bm, 0, none⟩ = some (.map (some m))) (hown : MapAt W m f n) (h0 : J [] W) :
    CallsIn F nF Try.prog 75 #[.func (.yield l) #[] #[], .pointer (some ⟨Bm, 0, none⟩)] W fun e W' => (∃ v, e = .returned v) ∧
      ((∃ ps : List (Ent f), AllP f (ps.map (·.1)) ∧ J ps W') ∨ (∃ pre, True ∧ Jx pre W')) := by
  refine callsIn_of_wp Try.func75 rfl h8 ?_ hro
  simp only [Try.ntmps75, List.size_toArray, List.length_cons, List.length_nil, Nat.reduceAdd, Nat.reduceSub, Array.replicate_succ, Array.replicate_zero, List.push_toArray, List.append_toArray, List.nil_append, List.cons_append]
  gi_wp2_with (first
    | (gi_at_range; refine wpListIn_range_rg _ rfl _ 81 rfl 9 _ Try.underlying81 m n f rfl hown ?_; intro w0 hrg0 hg0 hs0)
    | gi_in)
  go_frame
  gi_loopw [3, 4] (fun _ _ wr => ∃ (cnt : Nat) (ps : List (Ent f)), Rg wr m W.heap.size f n (ps.map (·.1)) cnt ∧ ps.length + cnt ≤ n ∧ J ps wr)
    (fun _ _ wr => wr.rangeLeft m W.heap.size)
  case atStart =>
    exact ⟨_, [], hrg0, by simp, hJ [] W w0 none h0 hg0 (fun r e => by cases e)⟩
  case round =>
    obtain ⟨cnt, ps, hrg, hcs, hJs⟩ := hrel
    gi_wp2_with (first
      | (gi_at_next; refine wpListIn_next_rg _ rfl _ rfl m W.heap.size n cnt f (ps.map (·.1)) rfl hrg hv ?_ ?_)
      | gi_in)
    · intro hall
      gi_wp2
      go_end0
      exact ⟨⟨_, rfl⟩, .inl ⟨ps, hall, hJs⟩⟩
    · intro x c w2 cnt2 hrg2 hlt hg2 hs2 hen
      have hJ2 : J ps w2 := hJ ps wr w2 (some W.heap.size) hJs hg2 (fun r e => by cases e; exact ⟨Nat.le_refl _, hrg.iter_walk⟩)
      have hx := Lib.hid hrg2.last
      obtain ⟨fn, tmps, assign, body, hy, hR⟩ := hY ps ⟨(x, c), hx.out⟩ w2 hJ2 (by omega)
      dsimp only [encR] at hy
      clear hs2
      gi_wp2
      refine hR.mono ?_
      rintro e W3 (⟨rfl, hJ3, hk3⟩ | ⟨rfl, hJx3⟩)
      · gi_wp2
        have hrg3 := hrg2.of_kp hB hk3
        go_roundw
        case rel => exact ⟨cnt2, ps ++ [⟨(x, c), hx.out⟩], by simpa using hrg3, by simp; omega, hJ3⟩
        case measure => rw [hrg3.left_eq, hrg.left_eq]; exact hlt
      · gi_wp2
        refine bodyPost_ret (results_none rfl _ _ _) rfl ?_
        exact ⟨⟨_, rfl⟩, .inr ⟨ps ++ [⟨(x, c), hx.out⟩], trivial, hJx3⟩⟩
end Go.Proofs.Ytoichcjlfpijeaa
