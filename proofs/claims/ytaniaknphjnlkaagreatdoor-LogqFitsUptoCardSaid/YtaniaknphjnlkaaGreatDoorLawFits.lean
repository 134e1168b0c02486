/- LogqFits holds where the arguments are of bulk at most 1048576: for every such input the law returns true and leaves its arguments as they were. -/
import Derived.Test.YtaniaknphjnlkaaGreatDoorLqFitsW
import Derived.Test.YtaniaknphjnlkaaGreatDoorLqOpenR
import Derived.Test.YtaniaknphjnlkaaGreatDoorLqGV
import Derived.Test.YtaniaknphjnlkaaGreatDoorLqWitn
import Derived.Test.YtaniaknphjnlkaaGreatDoorCards
import Derived.Test.YtaniaknphjnlkaaGreatDoorTie
import Derived.SevenTiedAt
import Derived.WalkKit
import Derived.ProofKit
import Derived.OpenShut
import Derived.Deep.DeepHandedRow
import Derived.Deep.DeepWitnessRowRef
import Derived.Below
import Derived.LaidMore
import Derived.Stop.Joined
namespace Go.Proofs.YtaniaknphjnlkaaGreatDoor.logqFitsDone
open Go.ChangeShapes Go.WideShapes Go.ChangeAt Go.RowKit Go.Bl Go.Proofs.YtaniaknphjnlkaaGreatDoor
theorem own : ownKnob Tryz.prog.godebug = none := by kernel_rfl
theorem glob7 : Tryz.prog.globalNamed "math/bits.deBruijn64tab" = some 7 := by kernel_rfl
theorem laidOut : laidOutB Tryz.prog = true := by kernel_rfl
theorem size8 {W : World} (h : laidMet Tryz.prog Rows.logqBackRow.laid W) : 8 ≤ W.heap.size := by
  obtain ⟨g, t, cs, fuel, p, hg, _, hv, _⟩ := Lib.laidMet.reads h (n := "math/bits.deBruijn64tab") (.tail _ (.head _))
  obtain rfl := Option.some.inj (glob7.symm.trans hg)
  unfold World.var? at hv
  rw [glob7] at hv
  simp only [Option.bind_some] at hv
  rcases Nat.lt_or_ge 7 W.heap.size with h7 | h7
  · omega
  · rw [Array.getElem?_eq_none h7] at hv
    simp at hv
/-- A record of zeros, and what it reads as. -/
def zeroRec : Value := .agg (([.int .i64 0, .string ⟨#[]⟩, .slice none 0 0, .int .i64 0, .int .i64 0, .int .i64 0, .int .i64 0, .string ⟨#[]⟩] ++ List.replicate 32 (.int .u8 0) : List Value)).toArray
def zeroData {H : Type} : DataW H := .agg [.lit (.int .i64 0), .lit (.string []), .nil, .lit (.int .i64 0), .lit (.int .i64 0), .lit (.int .i64 0), .lit (.int .i64 0), .lit (.string []), .agg (List.replicate 16 (.lit (.int .u8 0))), .agg (List.replicate 8 (.lit (.int .u8 0))), .agg (List.replicate 8 (.lit (.int .u8 0)))]
theorem reads (os : Os) {H : Type} (enc : TypeId × Value → H) : ∃ places, DataW.whole enc Tryz.prog ((laidWorld os).forCall (fun _ _ => 0) ⟨#[], #[.agg #[.slice none 0 0, .int .i64 0, .slice none 0 0, .int .i64 0], zeroRec], []⟩).memory Tryz.f5.params.toList Rows.logqFitsSpec.vars false #[Value.agg #[.slice none 0 0, .int .i64 0, .slice none 0 0, .int .i64 0], zeroRec].toList 8 = some ([.agg [.nil, .lit (.int .i64 0), .nil, .lit (.int .i64 0)], zeroData], [], places) :=
  ⟨[], by kernel_rfl⟩
theorem laid_eq : Rows.logqFitsUptoRow.laid = Rows.logqBackRow.laid := rfl
set_option maxRecDepth 1000000 in
theorem lifted (os : Os) (started : os.Started) (H : Type) (enc : TypeId × Value → H) (F : Stop.Interp) :
    ReturnsInHanded {} Tryz.checked os 5 .any ((Rows.OpenSpec.upto Rows.logqFitsSpec).preRow enc Tryz.prog Tryz.f5 Rows.logqFitsUptoRow.domain false Rows.logqFitsUptoRow.laid) (((Rows.OpenSpec.upto Rows.logqFitsSpec).at F).post enc Tryz.prog Tryz.f5 false true false false) := by
  obtain ⟨places, hx⟩ := reads os enc
  refine returnsInHanded_of_row (C := Tryz.checked) (s := Rows.OpenSpec.upto Rows.logqFitsSpec) own started (by kernel_rfl) Tryz.func5
    (witness_row_atRef (enc := enc) (C := Tryz.checked) false (laidWorld os) #[.agg #[.slice none 0 0, .int .i64 0, .slice none 0 0, .int .i64 0], zeroRec] rfl (by kernel_rfl) (by kernel_rfl) (by kernel_rfl)
      (OpenSpec.preRow_of_cond 8 hx (by kernel_rfl) (fun k hk => by cases hk; kernel_rfl) (by kernel_rfl) (by rw [laid_eq]; exact door_met os _))) ?_
  intro W base args ds gs before hval0 hW _ hcond _ hL hsh _
  have hval : ∀ (j : Nat) t v, Tryz.f5.params[j]? = some t → args[j]? = some v → Value.okWide Tryz.prog W .any base t v := hval0
  have hk := bulks.bound (hcond _ rfl)
  have hW' := hW
  obtain ⟨p, q, hA0, hV, rfl, hfz, hnd⟩ := hW
  have hA : DataW.TrodAll enc Tryz.prog W 0 (fun _ => true) true Tryz.f5.params.toList args.toList ds p := hA0
  rw [Tryz.params5] at hA hval
  obtain ⟨v0, vs0, d0, ds0, p0, q0, hargs, rfl, rfl, h0, r0⟩ := trodAll_cons hA
  obtain ⟨v1, vs1, d1, ds1, p1, q1, rfl, rfl, rfl, h1, r1⟩ := trodAll_cons r0
  obtain ⟨rfl, rfl, rfl⟩ := trodAll_nil r1
  obtain rfl : args = #[v0, v1] := by cases args; simp_all
  obtain ⟨rfl, rfl⟩ := trodVars_none hV
  have lt0 : ∀ x ∈ p0, x.block < W.heap.size := by obtain ⟨m, hm⟩ := h0; exact DataW.trod_lt m _ _ _ hm
  have lt1 : ∀ x ∈ p1, x.block < W.heap.size := by obtain ⟨m, hm⟩ := h1; exact DataW.trod_lt m _ _ _ hm
  obtain ⟨a, hqa, sa1, sa2, sa3, sa4⟩ := qy_agg (hval 0 24 v0 rfl rfl) h0
  obtain ⟨b, hqb, sb1, sb2, sb3⟩ := rec_agg (hval 1 39 v1 rfl rfl) h1
  simp only [List.append_nil] at hk hW'
  have hb0 : Rows.uptoBulk d0 ≤ Rows.uptoBulkAll [d0, d1] := bulks.part_le (by simp)
  have hb1 : Rows.uptoBulk d1 ≤ Rows.uptoBulkAll [d0, d1] := bulks.part_le (by simp)
  clear hA0 hval0
  have hX : GX W := Tryz.laysM144.s1_3 W hsh
  have hL2 : laidMet Tryz.prog Rows.logqBackRow.laid W := by
    rw [laid_eq, MakeChecks.laidMetH_plain _ _ _ (by kernel_rfl)] at hL
    exact hL
  refine (fits_any a b _ _ W (gv_of_laid hL2) hX (size8 hL2) hqa hqb ⟨by omega, fun m hm => by have := sb2 m hm; omega⟩ ⟨by omega, fun m hm => by have := sa3 m hm; omega⟩ ⟨by omega, fun m hm => by have := sa4 m hm; omega⟩ (by omega)).mono fun e W' ⟨he, fr⟩ => ?_
  subst he
  have bel : Below W.heap.size W W' := fr.below (Nat.le_refl _) (by simp)
  exact ⟨_, rfl, _, _, _, [], _, [], hW', trodAll_mk1 (shut_bool Tryz.underlying4 _), (trodAll_cons_mk (Below.trod laidOut (by kernel_rfl) (of_decide_eq_true (by kernel_rfl)) h0 bel lt0) (trodAll_cons_mk (Below.trod laidOut (by kernel_rfl) (of_decide_eq_true (by kernel_rfl)) h1 bel lt1) trodAll_mk0)), rfl, bel.frame _, fun h => by cases h⟩
theorem over : Rows.LogqFitsUptoSaid :=
  OpenClaim.holds_of_cond 5 Tryz.f5 rfl rfl rfl rfl rfl rfl rfl ⟨rfl, rfl, rfl, rfl, rfl⟩ rfl rfl rfl rfl rfl (by kernel_rfl) Tryz.func5 (by kernel_rfl)
    (of_decide_eq_true (by kernel_rfl)) (by unfold Func.isWrapper; first | (rw [if_pos (by decide +kernel)]; kernel_rfl) | (rw [if_neg (by decide +kernel)]; exact ⟨rfl, rfl⟩))
    (fun os started H enc _ F => by rw [OpenClaim.pre_eq_preRow]; exact lifted os started H enc F)
/-- No parameter wants a stand-in; the program's own looks are off: what the card asks. -/
theorem plain (f : FuncId) (fn : Func) (hf : Tryz.pinned.checked.prog.funcNamed "belfry/belfrylaw14.LogqFits" = some f) (hfn : Tryz.pinned.checked.prog.funcs[f]? = some fn) :
    true = Tryz.pinned.checked.prog.looks [] ∧ ∀ (j : Nat) t, fn.params[j]? = some t → Tryz.pinned.checked.prog.wantsStandIn t = false := by
  obtain rfl : f = 5 := Option.some.inj ((show Tryz.prog.funcNamed "belfry/belfrylaw14.LogqFits" = some 5 by kernel_rfl).symm.trans hf) |>.symm
  obtain rfl : fn = Tryz.f5 := (Option.some.inj (Tryz.func5.symm.trans hfn)).symm
  refine ⟨by kernel_rfl, fun j t ht => ?_⟩
  rw [Tryz.params5] at ht
  have := Array.mem_of_getElem? ht
  simp only [List.mem_toArray, List.mem_cons, List.not_mem_nil, or_false] at this
  rcases this with h | h
  · rw [h]
    exact (show Tryz.prog.wantsStandIn 24 = false by kernel_rfl)
  · rw [h]
    exact (show Tryz.prog.wantsStandIn 39 = false by kernel_rfl)
theorem proved : Rows.LogqFitsUptoCardSaid :=
  Claim7.holds_tied_plain_at .later [] _ _ _ _ over (fun _ h => by cases h) (by kernel_rfl) (fun _ h => by cases h) logqFitsUpto_row_tie rfl ⟨rfl, rfl⟩ (by kernel_rfl) rfl plain (by kernel_rfl)
#print axioms proved
end Go.Proofs.YtaniaknphjnlkaaGreatDoor.logqFitsDone
