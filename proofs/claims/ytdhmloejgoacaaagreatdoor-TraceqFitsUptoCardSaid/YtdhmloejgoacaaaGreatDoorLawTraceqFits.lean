/- TraceqFits holds where the arguments are of bulk at most 1048576: for every such input the law returns true and leaves its arguments as they were. -/
import Derived.Test.YtdhmloejgoacaaaGreatDoorTqFitsW
import Derived.Test.YtdhmloejgoacaaaGreatDoorMf55
import Derived.Test.YtdhmloejgoacaaaGreatDoorTqGV
import Derived.Test.YtdhmloejgoacaaaGreatDoorCards
import Derived.Test.YtdhmloejgoacaaaGreatDoorTie
import Derived.SevenTiedAt
import Derived.WalkKit
import Derived.ProofKit
import Derived.OpenShut
import Derived.Deep.DeepHandedRow
import Derived.Deep.DeepWitnessRowRef
import Derived.Below
import Derived.LaidMore
import Derived.Stop.Joined
set_option linter.unusedVariables false
set_option linter.unusedSimpArgs false
namespace Go.Proofs.YtdhmloejgoacaaaGreatDoor.traceqFitsDone
open Go.ChangeShapes Go.WideShapes Go.ChangeAt Go.RowKit Go.Bl Go.Tq Go.Proofs.YtdhmloejgoacaaaGreatDoor
theorem own : ownKnob Tryz.prog.godebug = none := by kernel_rfl
theorem laidOut : laidOutB Tryz.prog = true := by kernel_rfl
/-- A record of zeros, and what it reads as. -/
def zeroRec : Value := .agg (([.int .i64 0, .string ⟨#[]⟩, .slice none 0 0, .int .i64 0, .int .i64 0, .int .i64 0, .int .i64 0, .string ⟨#[]⟩] ++ List.replicate 32 (.int .u8 0) : List Value)).toArray
def zeroData {H : Type} : DataW H := .agg [.lit (.int .i64 0), .lit (.string []), .nil, .lit (.int .i64 0), .lit (.int .i64 0), .lit (.int .i64 0), .lit (.int .i64 0), .lit (.string []), .agg (List.replicate 16 (.lit (.int .u8 0))), .agg (List.replicate 8 (.lit (.int .u8 0))), .agg (List.replicate 8 (.lit (.int .u8 0)))]
theorem reads (os : Os) {H : Type} (enc : TypeId × Value → H) : ∃ places, DataW.whole enc Tryz.prog ((laidWorld os).forCall (fun _ _ => 0) ⟨#[], #[.agg #[.string ⟨#[]⟩, .int .i64 0, .slice none 0 0], zeroRec, .slice none 0 0, .int .i64 0], []⟩).memory Tryz.f9.params.toList Rows.traceqFitsSpec.vars false #[Value.agg #[.string ⟨#[]⟩, .int .i64 0, .slice none 0 0], zeroRec, .slice none 0 0, .int .i64 0].toList 8 = some ([.agg [.lit (.string []), .lit (.int .i64 0), .nil], zeroData, .nil, .lit (.int .i64 0)], [], places) :=
  ⟨[], by kernel_rfl⟩
theorem laid_eq : Rows.traceqFitsUptoRow.laid = Rows.traceqWritesRow.laid := rfl
set_option maxRecDepth 1000000 in
theorem lifted (os : Os) (started : os.Started) (H : Type) (enc : TypeId × Value → H) (F : Stop.Interp) :
    ReturnsInHanded {} Tryz.checked os 9 .any ((Rows.OpenSpec.upto Rows.traceqFitsSpec).preRow enc Tryz.prog Tryz.f9 Rows.traceqFitsUptoRow.domain false Rows.traceqFitsUptoRow.laid) (((Rows.OpenSpec.upto Rows.traceqFitsSpec).at F).post enc Tryz.prog Tryz.f9 false true false false) := by
  obtain ⟨places, hx⟩ := reads os enc
  refine returnsInHanded_of_row (C := Tryz.checked) (s := Rows.OpenSpec.upto Rows.traceqFitsSpec) own started (by kernel_rfl) Tryz.func9
    (witness_row_atRef (enc := enc) (C := Tryz.checked) false (laidWorld os) #[.agg #[.string ⟨#[]⟩, .int .i64 0, .slice none 0 0], zeroRec, .slice none 0 0, .int .i64 0] rfl (by kernel_rfl) (by kernel_rfl) (by kernel_rfl)
      (OpenSpec.preRow_of_cond 8 hx (by kernel_rfl) (fun k hk => by cases hk; kernel_rfl) (by kernel_rfl) (by rw [laid_eq]; exact door_metT os _))) ?_
  intro W base args ds gs before hval0 hW _ hcond _ hL hsh _
  have hval : ∀ (j : Nat) t v, Tryz.f9.params[j]? = some t → args[j]? = some v → Value.okWide Tryz.prog W .any base t v := hval0
  have hk := bulks.bound (hcond _ rfl)
  have hW' := hW
  obtain ⟨p, q, hA0, hV, rfl, hfz, hnd⟩ := hW
  have hA : DataW.TrodAll enc Tryz.prog W 0 (fun _ => true) true Tryz.f9.params.toList args.toList ds p := hA0
  rw [Tryz.params9] at hA hval
  obtain ⟨v0, vs0, d0, ds0, p0, q0, hargs, rfl, rfl, h0, r0⟩ := trodAll_cons hA
  obtain ⟨v1, vs1, d1, ds1, p1, q1, rfl, rfl, rfl, h1, r1⟩ := trodAll_cons r0
  obtain ⟨v2, vs2, d2, ds2, p2, q2, rfl, rfl, rfl, h2, r2⟩ := trodAll_cons r1
  obtain ⟨v3, vs3, d3, ds3, p3, q3, rfl, rfl, rfl, h3, r3⟩ := trodAll_cons r2
  obtain ⟨rfl, rfl, rfl⟩ := trodAll_nil r3
  obtain rfl : args = #[v0, v1, v2, v3] := by cases args; simp_all
  obtain ⟨rfl, rfl⟩ := trodVars_none hV
  have lt0 : ∀ x ∈ p0, x.block < W.heap.size := by obtain ⟨m, hm⟩ := h0; exact DataW.trod_lt m _ _ _ hm
  have lt1 : ∀ x ∈ p1, x.block < W.heap.size := by obtain ⟨m, hm⟩ := h1; exact DataW.trod_lt m _ _ _ hm
  have lt2 : ∀ x ∈ p2, x.block < W.heap.size := by obtain ⟨m, hm⟩ := h2; exact DataW.trod_lt m _ _ _ hm
  obtain ⟨a, hqa, sa1, sa2⟩ := st_agg (hval 0 45 v0 rfl rfl) h0
  obtain ⟨b, hqb, sb1, sb2, _⟩ := rec_agg (hval 1 39 v1 rfl rfl) h1
  obtain ⟨c, hqc, sc1, sc2⟩ := mts_agg (hval 2 22 v2 rfl rfl) h2
  obtain ⟨n, rfl, rfl, rfl, wf⟩ := open_int Tryz.underlying2 (hval 3 2 v3 rfl rfl) h3
  have hn : n < 9223372036854775808 := by have := (bounds_i64 wf).2; omega
  simp only [List.append_nil] at hk hW'
  have hb0 : Rows.uptoBulk d0 ≤ Rows.uptoBulkAll [d0, d1, d2, .lit (.int .i64 n)] := bulks.part_le (by simp)
  have hb1 : Rows.uptoBulk d1 ≤ Rows.uptoBulkAll [d0, d1, d2, .lit (.int .i64 n)] := bulks.part_le (by simp)
  have hb2 : Rows.uptoBulk d2 ≤ Rows.uptoBulkAll [d0, d1, d2, .lit (.int .i64 n)] := bulks.part_le (by simp)
  clear hA0 hval0
  have hX : GX W := Tryz.laysM144.s1_3 W hsh
  have hL2 : laidMet Tryz.prog Rows.traceqWritesRow.laid W := by
    rw [laid_eq, MakeChecks.laidMetH_plain _ _ _ (by kernel_rfl)] at hL
    exact hL
  have hms : MtsShort (a.mat ++ c) := by
    have hs : Rows.uptoBulk d0 + Rows.uptoBulk d2 ≤ Rows.uptoBulkAll [d0, d1, d2, .lit (.int .i64 n)] := by
      simp only [Rows.uptoBulkAll]
      omega
    refine ⟨by rw [List.length_append]; omega, fun m hm => ?_⟩
    rcases List.mem_append.1 hm with h | h
    · have := sa2 m h; omega
    · have := sc2 m h; omega
  refine (fitsW_any a b c n _ _ _ W (gvT_of_laid hL2) hX (size8T hL2) hqa hqb hqc hn ⟨by omega, fun m hm => by have := sb2 m hm; omega⟩ hms).mono fun e W' ⟨he, fr⟩ => ?_
  subst he
  have bel : Below W.heap.size W W' := fr.below (Nat.le_refl _) (by simp)
  exact ⟨_, rfl, _, _, _, [], _, [], hW', trodAll_mk1 (shut_bool Tryz.underlying4 _), (trodAll_cons_mk (Below.trod laidOut (by kernel_rfl) (of_decide_eq_true (by kernel_rfl)) h0 bel lt0) (trodAll_cons_mk (Below.trod laidOut (by kernel_rfl) (of_decide_eq_true (by kernel_rfl)) h1 bel lt1) (trodAll_cons_mk (Below.trod laidOut (by kernel_rfl) (of_decide_eq_true (by kernel_rfl)) h2 bel lt2) (trodAll_cons_mk (shut_int Tryz.underlying2 wf) trodAll_mk0)))), rfl, bel.frame _, fun h => by cases h⟩
theorem over : Rows.TraceqFitsUptoSaid :=
  OpenClaim.holds_of_cond 9 Tryz.f9 rfl rfl rfl rfl rfl rfl rfl ⟨rfl, rfl, rfl, rfl, rfl⟩ rfl rfl rfl rfl rfl (by kernel_rfl) Tryz.func9 (by kernel_rfl)
    (of_decide_eq_true (by kernel_rfl)) (by unfold Func.isWrapper; first | (rw [if_pos (by decide +kernel)]; kernel_rfl) | (rw [if_neg (by decide +kernel)]; exact ⟨rfl, rfl⟩))
    (fun os started H enc _ F => by rw [OpenClaim.pre_eq_preRow]; exact lifted os started H enc F)
/-- No parameter wants a stand-in; the program's own looks are off: what the card asks. -/
theorem plain (f : FuncId) (fn : Func) (hf : Tryz.pinned.checked.prog.funcNamed "belfry/belfrylaw15.TraceqFits" = some f) (hfn : Tryz.pinned.checked.prog.funcs[f]? = some fn) :
    true = Tryz.pinned.checked.prog.looks [] ∧ ∀ (j : Nat) t, fn.params[j]? = some t → Tryz.pinned.checked.prog.wantsStandIn t = false := by
  obtain rfl : f = 9 := Option.some.inj ((show Tryz.prog.funcNamed "belfry/belfrylaw15.TraceqFits" = some 9 by kernel_rfl).symm.trans hf) |>.symm
  obtain rfl : fn = Tryz.f9 := (Option.some.inj (Tryz.func9.symm.trans hfn)).symm
  refine ⟨by kernel_rfl, fun j t ht => ?_⟩
  rw [Tryz.params9] at ht
  have := Array.mem_of_getElem? ht
  simp only [List.mem_toArray, List.mem_cons, List.not_mem_nil, or_false] at this
  rcases this with h | h | h | h
  · rw [h]
    exact (show Tryz.prog.wantsStandIn 45 = false by kernel_rfl)
  · rw [h]
    exact (show Tryz.prog.wantsStandIn 39 = false by kernel_rfl)
  · rw [h]
    exact (show Tryz.prog.wantsStandIn 22 = false by kernel_rfl)
  · rw [h]
    exact (show Tryz.prog.wantsStandIn 2 = false by kernel_rfl)
theorem proved : Rows.TraceqFitsUptoCardSaid :=
  Claim7.holds_tied_plain_at .later [] _ _ _ _ over (fun _ h => by cases h) (by kernel_rfl) (fun _ h => by cases h) traceqFitsUpto_row_tie rfl ⟨rfl, rfl⟩ (by kernel_rfl) rfl plain (by kernel_rfl)
#print axioms proved
end Go.Proofs.YtdhmloejgoacaaaGreatDoor.traceqFitsDone
