/- Which programs may be, for the law of plain forms; the document's examples. No conditions. -/
import Derived.Test.YtmkoadgphhkfgaaDoorPgD
set_option linter.unusedVariables false
namespace Go.Proofs.YtmkoadgphhkfgaaDoor.Pg
open Go Sl
theorem Right.pass {ins regs : Int} {code : List Ins} {outs : List Int} (h : Right ⟨ins, regs, code, outs⟩) : Right ⟨ins, regs, passF code, outs⟩ :=
  ⟨h.ins1, h.ins2, h.regs, Nat.le_trans (passF_length code) h.code, h.outs1, h.outs2, h.outs, passF_may h.may⟩
theorem Right.may128 {p : Prg} (h : Right p) : ∀ i ∈ p.code, May i 128 := fun i hi => (h.may i hi).mono h.regs
instance (i : Ins) (r : Int) : Decidable (May i r) :=
  decidable_of_iff (1 ≤ i.op ∧ i.op ≤ 8 ∧ 0 ≤ i.to ∧ i.to < r ∧ (two i.op = false → i.b = 0) ∧ constant i = true ∧ ∀ x ∈ asks i, 0 ≤ x ∧ x < r)
    ⟨fun ⟨a, b, c, d, e, f, g⟩ => ⟨a, b, c, d, e, f, g⟩, fun h => ⟨h.op1, h.op8, h.to0, h.to1, h.b, h.c, h.asks⟩⟩
def kcode : List Ins := [⟨5, 1, 0, 0, 4⟩, ⟨6, 1, 1, 0, 2⟩, ⟨6, 1, 1, 0, -2⟩, ⟨2, 1, 1, 0, 0⟩]
theorem kright : Right ⟨1, 2, kcode, [1]⟩ := ⟨by decide, by decide, by decide, by decide, by decide, by decide, by decide, by decide⟩
theorem kright2 : Right ⟨2, 3, kcode, [1]⟩ := ⟨by decide, by decide, by decide, by decide, by decide, by decide, by decide, by decide⟩
theorem kpass : passF kcode = [⟨1, 1, 0, 0, 0⟩] := by decide
theorem kmelt1 : meltX ⟨5, 1, 0, 0, 6⟩ ⟨6, 1, 1, 0, 3⟩ = (⟨7, 1, 0, 0, 1⟩, true) := by decide
theorem kmelt2 : meltX ⟨5, 1, 0, 0, 6⟩ ⟨6, 1, 1, 0, 4⟩ = (noIns, false) := by decide
theorem kmelt3 : meltX ⟨5, 1, 0, 0, 3⟩ ⟨6, 1, 1, 0, -6⟩ = (⟨6, 1, 0, 0, -2⟩, true) := by decide
theorem kmay (i : Ins) (h : decide (May i 128) = true) : May i 128 := of_decide_eq_true h
theorem right13 {ts : List Trn} {us : List Int} {k q : Nat} (ht : ∀ x ∈ ts, x.Ok) (hu : ∀ u ∈ us, 0 ≤ u ∧ u ≤ 255) (hk : k ≤ 24) (hq : q ≤ 4) : Right ⟨2, 3, (ts.take k).map instr13, 0 :: (us.take q).map (·.tmod 3)⟩ := by
  refine ⟨by simp, by simp, by simp, ?_, by simp, ?_, ?_, ?_⟩
  · simp; omega
  · simp; omega
  · intro r hr
    rcases List.mem_cons.1 hr with rfl | hr
    · simp
    · obtain ⟨u, hu1, rfl⟩ := List.mem_map.1 hr
      exact tmod_bd (hu u (List.mem_of_mem_take hu1)).1 3 (by decide)
  · intro i hi
    obtain ⟨x, hx, rfl⟩ := List.mem_map.1 hi
    exact instr13_may (ht x (List.mem_of_mem_take hx))
theorem split_at {α : Type} {l : List α} {k : Nat} (h : k < l.length) : ∃ zs i ys, l = zs ++ i :: ys ∧ zs.length = k :=
  ⟨l.take k, l[k], l.drop (k + 1), by rw [List.getElem_cons_drop, List.take_append_drop], by simp; omega⟩
end Go.Proofs.YtmkoadgphhkfgaaDoor.Pg
