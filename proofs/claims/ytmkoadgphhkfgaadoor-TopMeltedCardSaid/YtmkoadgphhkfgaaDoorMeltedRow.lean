/- TopMelted answers true for every input, and its arguments read as they did: the law's row, with what the tables hold tied to the program's text. Conditions: none beyond the row's own (the two tables of math/bits as the program lays them). -/
import Derived.Test.YtmkoadgphhkfgaaDoorFoldWalks5
import Derived.Test.YtmkoadgphhkfgaaDoorSlR
import Derived.Test.YtmkoadgphhkfgaaDoorCards
import Derived.Test.YtmkoadgphhkfgaaDoorTie
import Derived.WalkKit
import Derived.ProofKit
import Derived.OpenShut
import Derived.Deep.DeepHandedRow
import Derived.Lib.LaidTab
import Derived.LaidSub
namespace Go.Proofs.YtmkoadgphhkfgaaDoor.topMelted
open Go Go.RowKit Go.ChangeShapes Go.WideShapes Go.ChangeAt Sl Pg
set_option linter.unusedVariables false
set_option linter.unusedSimpArgs false

theorem own : ownKnob Tryd.prog.godebug = none := by kernel_rfl
theorem laidOut : laidOutB Tryd.prog = true := by kernel_rfl
theorem gTab : Tryd.prog.globalNamed "math/bits.deBruijn64tab" = some 1 := by kernel_rfl
theorem cells5 : Tryd.prog.cellsOf 5 = 1 := by kernel_rfl
theorem cells29 : Tryd.prog.cellsOf 29 = 5 := by kernel_rfl
theorem table {W : World} (h : laidMetH Tryd.prog Rows.topMeltedRow.laid W) : Lib.TabIs Tryd.prog W "math/bits.deBruijn64tab" .u8 tab64 := by
  have h1 := laidMetH.filter (fun x => x.1 == "math/bits.deBruijn64tab") h
  have e : (Rows.topMeltedRow.laid.filter fun x => x.1 == "math/bits.deBruijn64tab") = [("math/bits.deBruijn64tab", Lib.tabData .u8 tab64)] := by kernel_rfl
  rw [e] at h1
  exact Lib.tabIs_of_head (rest := []) (t := 125) (n := 64) gTab (by kernel_rfl) (by kernel_rfl) Tryd.underlying5 cells5 (by kernel_rfl) h1
set_option maxRecDepth 100000 in
/-- What the walk gives, for every argument, in every world that holds the tables. -/
theorem contract (H : Type) (enc : TypeId × Value → H) (W : World) (base : Nat) (args : Array Value) (ds gs : List (DataW H)) (before : List MemPlace)
    (hval : ∀ (j : Nat) t v, Tryd.f3.params[j]? = some t → args[j]? = some v → Value.okWide Tryd.prog W .any base t v)
    (hW : DataW.Whole enc Tryd.prog Tryd.f3.params.toList Rows.topMeltedSpec.vars false W args.toList ds gs before) (hL : laidMetH Tryd.prog Rows.topMeltedRow.laid W) :
    Calls Tryd.prog 3 args W fun e W' => ∃ v, e = .returned v ∧ Rows.topMeltedSpec.post enc Tryd.prog Tryd.f3 false true false false W args v W' := by
  have hW' := hW
  obtain ⟨p, q, hA0, hV, rfl, hfz, hnd⟩ := hW
  have hA : DataW.TrodAll enc Tryd.prog W 0 (fun _ => true) true Tryd.f3.params.toList args.toList ds p := hA0
  rw [Tryd.params3] at hA hval
  obtain ⟨v0, v1, d0, d1, p0, p1, rfl, rfl, rfl, h0, h1⟩ := trodAll_two hA
  obtain ⟨A, n, ts, rfl, hts, hn1, hn2, hoA, hdA⟩ := open_elems encTr Trn.Ok Tryd.underlying22 cells29 (hval 0 22 v0 rfl rfl) h0 (fun cs m x hc h => by
    obtain ⟨ys, rfl, hl, hw⟩ := el_ints (k := .u8) Tryd.underlying29 (by kernel_rfl) (by kernel_rfl) h
    have hl5 : ys.length = 5 := hl
    match ys, hl5 with
    | [a, b, c, d, e], _ => exact ⟨⟨a, b, c, d, e⟩, rfl, bounds_u8 (hw a (by simp)), bounds_u8 (hw b (by simp)), bounds_u8 (hw c (by simp)), bounds_u8 (hw d (by simp)), bounds_u8 (hw e (by simp))⟩)
  obtain ⟨B, m, us, rfl, hus, hm1, hm2, hoB, hdB⟩ := open_elems (encI .u8) (fun u => 0 ≤ u ∧ u ≤ 255) Tryd.underlying23 cells5 (hval 1 23 v1 rfl rfl) h1 (fun cs m x hc h => by
    obtain ⟨y, rfl, hw⟩ := el_int Tryd.underlying5 h
    exact ⟨y, rfl, bounds_u8 hw⟩)
  have tab := table hL
  have hT : tabCh.ok W ∧ ∀ b ∈ tabCh.dom, b < W.heap.size := by
    have hc : ∀ j v, (Enc.row (encI .u8) tab64)[j]? = some v → W.cell? ⟨1, j, none⟩ = some v := by
      intro j v hj
      have hr : Enc.row (encI .u8) tab64 = tab64.map (Value.int .u8) := rfl
      rw [hr] at hj
      have hjl : j < tab64.length := by have := (List.getElem?_eq_some_iff.1 hj).1; simpa using this
      rw [tab.cell gTab j hjl, ← hj]
      simp [List.getD, hjl]
    refine ⟨fun j v hj => ⟨⟨_, rfl, rfl⟩, ?_⟩, fun b hb => ?_⟩
    · have := hc j v hj
      simpa [radr] using this
    · have h0 := hc 0 (.int .u8 0) rfl
      have := (plain_of_cell h0).2
      have hb' : b ∈ rodom (some ⟨1, 0, none⟩) (Enc.row (encI .u8) tab64) := hb
      have hb1 : b = 1 := by simpa [adom] using rodom_sub hb'
      subst hb1; exact this
  refine law_calls (R := [tabCh, roE encTr A ts, roE (encI .u8) B us]) rfl laidOut (by kernel_rfl) (by kernel_rfl) Tryd.underlying4 hW' rfl ?_ (TopMelted_w ts A n us B m hts hus (by unfold maxLen at hn2; omega) (by unfold maxLen at hm2; omega))
  intro c hc
  rcases List.mem_cons.1 hc with rfl | hc
  · exact hT
  rcases List.mem_cons.1 hc with rfl | hc
  · exact ⟨hoA, hdA⟩
  rcases List.mem_cons.1 hc with rfl | hc
  · exact ⟨hoB, hdB⟩
  · cases hc
/-- What an initialiser lays. -/
def lay (vs : List Int) : Obj → Obj
  | .cells _ t frozen => .cells (vs.map (Value.int .u8)).toArray t frozen
  | o => o
def tab32 : List Int := [0, 1, 28, 2, 29, 14, 24, 3, 30, 22, 20, 15, 25, 17, 4, 8, 31, 27, 13, 23, 21, 19, 16, 7, 26, 12, 18, 6, 11, 5, 10, 9]
/-- A world for the witness: the settled one, the tables holding what their initialisers lay. -/
noncomputable def laidWorld (os : Os) : World :=
  { World.holding Tryd.prog os ⟨#[], #[], []⟩ with heap := ((World.holding Tryd.prog os ⟨#[], #[], []⟩).heap.modify 0 (lay tab32)).modify 1 (lay tab64) }
theorem laid_met (os : Os) : laidMet Tryd.prog Rows.topMeltedRow.laid ((laidWorld os).forCall (fun _ _ => 0) ⟨#[], #[.slice none 0 0, .slice none 0 0], []⟩).memory :=
  laidMet_of_run' 8 (by kernel_rfl) (by kernel_rfl)
theorem reads (os : Os) {H : Type} (enc : TypeId × Value → H) : ∃ places, DataW.whole enc Tryd.prog ((laidWorld os).forCall (fun _ _ => 0) ⟨#[], #[.slice none 0 0, .slice none 0 0], []⟩).memory Tryd.f3.params.toList Rows.topMeltedSpec.vars false #[Value.slice none 0 0, .slice none 0 0].toList 8 = some ([.nil, .nil], [], places) :=
  ⟨[], by kernel_rfl⟩
set_option maxRecDepth 100000 in
theorem lifted (os : Os) (started : os.Started) (H : Type) (enc : TypeId × Value → H) (F : Stop.Interp) :
    ReturnsInHanded {} Tryd.checked os 3 .any ((OpenSpec.ofChange Rows.topMeltedSpec).preRow enc Tryd.prog Tryd.f3 Rows.topMeltedRow.domain false Rows.topMeltedRow.laid) (((OpenSpec.ofChange Rows.topMeltedSpec).at F).post enc Tryd.prog Tryd.f3 false true false false) := by
  obtain ⟨places, hx⟩ := reads os enc
  refine returnsInHanded_of_row (C := Tryd.checked) (s := OpenSpec.ofChange Rows.topMeltedSpec) own started (by kernel_rfl) Tryd.func3
    (witness_row_at (enc := enc) (C := Tryd.checked) false (laidWorld os) #[.slice none 0 0, .slice none 0 0] rfl (by kernel_rfl) (by kernel_rfl) (by kernel_rfl)
      (OpenSpec.preRow_of_cond 8 hx (by kernel_rfl) (fun k hk => by cases hk) (by kernel_rfl) (laid_met os))) ?_
  intro W base args ds gs before hval hW _ _ _ hL _ _
  exact contract H enc W base args ds gs before hval hW hL
theorem said : Rows.TopMeltedSaid :=
  OpenClaim.holds_of_cond 3 Tryd.f3 rfl rfl rfl rfl rfl rfl rfl ⟨rfl, rfl, rfl, rfl, rfl⟩ rfl rfl rfl rfl rfl (by kernel_rfl) Tryd.func3 (by kernel_rfl)
    (of_decide_eq_true (by kernel_rfl)) (by unfold Func.isWrapper; first | (rw [if_pos (by decide +kernel)]; kernel_rfl) | (rw [if_neg (by decide +kernel)]; exact ⟨rfl, rfl⟩))
    (fun os started H enc _ F => by rw [OpenClaim.pre_eq_preRow]; exact lifted os started H enc F)
theorem plain (f : FuncId) (fn : Func) (hf : Tryd.pinned.checked.prog.funcNamed "swage/swagetop.TopMelted" = some f) (hfn : Tryd.pinned.checked.prog.funcs[f]? = some fn) :
    false = Tryd.pinned.checked.prog.looks [] ∧ ∀ (j : Nat) t, fn.params[j]? = some t → Tryd.pinned.checked.prog.wantsStandIn t = false := by
  obtain rfl : f = 3 := Option.some.inj ((show Tryd.prog.funcNamed "swage/swagetop.TopMelted" = some 3 by kernel_rfl).symm.trans hf) |>.symm
  obtain rfl : fn = Tryd.f3 := (Option.some.inj (Tryd.func3.symm.trans hfn)).symm
  refine ⟨by kernel_rfl, fun j t ht => ?_⟩
  rw [Tryd.params3] at ht
  have ht' : t = 22 ∨ t = 23 := by simpa using Array.mem_of_getElem? ht
  rcases ht' with rfl | rfl
  · exact (show Tryd.prog.wantsStandIn 22 = false by kernel_rfl)
  · exact (show Tryd.prog.wantsStandIn 23 = false by kernel_rfl)
theorem card : Rows.TopMeltedCardSaid :=
  Claim7.holds_tied_plain_at .later [] _ _ _ _ said (fun _ h => by cases h) (by kernel_rfl) (fun _ h => by cases h) topMelted_row_tie rfl ⟨rfl, rfl⟩ (by kernel_rfl) rfl plain (by kernel_rfl)
#print axioms card
end Go.Proofs.YtmkoadgphhkfgaaDoor.topMelted
