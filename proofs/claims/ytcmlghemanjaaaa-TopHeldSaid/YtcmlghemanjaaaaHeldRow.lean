/- TopHeld answers true for every input, and its arguments read as they did: the law's row. Conditions: none beyond the row's own. -/
import Derived.Test.YtcmlghemanjaaaaLawWalks14d
import Derived.Test.YtcmlghemanjaaaaSlR
import Derived.Test.YtcmlghemanjaaaaRows
import Derived.WalkKit
import Derived.ProofKit
import Derived.OpenShut
import Derived.Deep.DeepHandedRow
import Derived.LaidSub
namespace Go.Proofs.Ytcmlghemanjaaaa.topHeld
open Go Go.RowKit Go.ChangeShapes Go.WideShapes Go.ChangeAt Sl Pg
set_option linter.unusedVariables false
set_option linter.unusedSimpArgs false

theorem own : ownKnob Try.prog.godebug = none := by kernel_rfl
theorem cells5 : Try.prog.cellsOf 5 = 1 := by kernel_rfl
theorem cells48 : Try.prog.cellsOf 48 = 5 := by kernel_rfl
set_option maxRecDepth 100000 in
/-- What the walk gives, for every argument, in every world. -/
theorem contract (H : Type) (enc : TypeId × Value → H) (W : World) (base : Nat) (args : Array Value) (ds gs : List (DataW H)) (before : List MemPlace)
    (hval : ∀ (j : Nat) t v, Try.f3.params[j]? = some t → args[j]? = some v → Value.okWide Try.prog W .any base t v)
    (hW : DataW.Whole enc Try.prog Try.f3.params.toList Rows.topHeldSpec.vars false W args.toList ds gs before) :
    Calls Try.prog 3 args W fun e W' => ∃ v, e = .returned v ∧ Rows.topHeldSpec.post enc Try.prog Try.f3 false true false false W args v W' := by
  have hW' := hW
  obtain ⟨p, q, hA0, hV, rfl, hfz, hnd⟩ := hW
  have hA : DataW.TrodAll enc Try.prog W 0 (fun _ => true) true Try.f3.params.toList args.toList ds p := hA0
  rw [Try.params3] at hA hval
  obtain ⟨v0, v1, v2, v3, d0, d1, d2, d3, p0, p1, p2, p3, rfl, rfl, rfl, h0, h1, h2, h3⟩ := trodAll_four hA
  obtain ⟨ins, rfl, rfl, rfl, hiw⟩ := open_int Try.underlying5 (hval 0 5 v0 rfl rfl) h0
  obtain ⟨regs, rfl, rfl, rfl, hrw⟩ := open_int Try.underlying5 (hval 1 5 v1 rfl rfl) h1
  have hi := bounds_u8 hiw
  have hr := bounds_u8 hrw
  obtain ⟨A, n, ts, rfl, hts, hn1, hn2, hoA, hdA⟩ := open_elems encTr Trn.Ok Try.underlying22 cells48 (hval 2 22 v2 rfl rfl) h2 (fun cs m x hc h => by
    obtain ⟨ys, rfl, hl, hw⟩ := el_ints (k := .u8) Try.underlying48 (by kernel_rfl) (by kernel_rfl) h
    have hl5 : ys.length = 5 := hl
    match ys, hl5 with
    | [a, b, c, d, e], _ => exact ⟨⟨a, b, c, d, e⟩, rfl, bounds_u8 (hw a (by simp)), bounds_u8 (hw b (by simp)), bounds_u8 (hw c (by simp)), bounds_u8 (hw d (by simp)), bounds_u8 (hw e (by simp))⟩)
  obtain ⟨B, m, us, rfl, hus, hm1, hm2, hoB, hdB⟩ := open_elems (encI .u8) (fun u => 0 ≤ u ∧ u ≤ 255) Try.underlying23 cells5 (hval 3 23 v3 rfl rfl) h3 (fun cs m x hc h => by
    obtain ⟨y, rfl, hw⟩ := el_int Try.underlying5 h
    exact ⟨y, rfl, bounds_u8 hw⟩)
  refine law_calls (R := [roE encTr A ts, roE (encI .u8) B us]) rfl laidOut (by kernel_rfl) (by kernel_rfl) Try.underlying4 hW' rfl ?_ (TopHeld_w ins regs ts A n us B m hi hr hts hus (by unfold maxLen at hn2; omega) (by unfold maxLen at hm2; omega))
  intro c hc
  rcases List.mem_cons.1 hc with rfl | hc
  · exact ⟨hoA, hdA⟩
  rcases List.mem_cons.1 hc with rfl | hc
  · exact ⟨hoB, hdB⟩
  · cases hc
theorem reads (os : Os) {H : Type} (enc : TypeId × Value → H) : ∃ places, DataW.whole enc Try.prog ((World.settled Try.prog os).forCall (fun _ _ => 0) ⟨#[], #[.int .u8 0, .int .u8 0, .slice none 0 0, .slice none 0 0], []⟩).memory Try.f3.params.toList Rows.topHeldSpec.vars false #[Value.int .u8 0, .int .u8 0, .slice none 0 0, .slice none 0 0].toList 8 = some ([.lit (.int .u8 0), .lit (.int .u8 0), .nil, .nil], [], places) :=
  ⟨[], by kernel_rfl⟩
theorem laid_met (os : Os) : laidMet Try.prog Rows.topHeldRow.laid ((World.settled Try.prog os).forCall (fun _ _ => 0) ⟨#[], #[.int .u8 0, .int .u8 0, .slice none 0 0, .slice none 0 0], []⟩).memory :=
  laidMet_of_run' 8 (by kernel_rfl) (by kernel_rfl)
set_option maxRecDepth 100000 in
theorem lifted (os : Os) (started : os.Started) (H : Type) (enc : TypeId × Value → H) (F : Stop.Interp) :
    ReturnsInHanded {} Try.checked os 3 .any ((OpenSpec.ofChange Rows.topHeldSpec).preRow enc Try.prog Try.f3 Rows.topHeldRow.domain false Rows.topHeldRow.laid) (((OpenSpec.ofChange Rows.topHeldSpec).at F).post enc Try.prog Try.f3 false true false false) := by
  obtain ⟨places, hx⟩ := reads os enc
  refine returnsInHanded_of_row (C := Try.checked) (s := OpenSpec.ofChange Rows.topHeldSpec) own started (by kernel_rfl) Try.func3
    (witness_row_at (enc := enc) (C := Try.checked) false (World.settled Try.prog os) #[.int .u8 0, .int .u8 0, .slice none 0 0, .slice none 0 0] rfl (by kernel_rfl) (by kernel_rfl) (by kernel_rfl)
      (OpenSpec.preRow_of_cond 8 hx (by kernel_rfl) (fun k hk => by cases hk) (by kernel_rfl) (laid_met os))) ?_
  intro W base args ds gs before hval hW _ _ _ _ _ _
  exact contract H enc W base args ds gs before hval hW
theorem said : Rows.TopHeldSaid :=
  OpenClaim.holds_of_cond 3 Try.f3 rfl rfl rfl rfl rfl rfl rfl ⟨rfl, rfl, rfl, rfl, rfl⟩ rfl rfl rfl rfl rfl (by kernel_rfl) Try.func3 (by kernel_rfl)
    (of_decide_eq_true (by kernel_rfl)) (by unfold Func.isWrapper; first | (rw [if_pos (by decide +kernel)]; kernel_rfl) | (rw [if_neg (by decide +kernel)]; exact ⟨rfl, rfl⟩))
    (fun os started H enc _ F => by rw [OpenClaim.pre_eq_preRow]; exact lifted os started H enc F)
#print axioms said
end Go.Proofs.Ytcmlghemanjaaaa.topHeld
