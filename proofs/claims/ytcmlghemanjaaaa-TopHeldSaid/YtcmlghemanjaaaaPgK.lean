/- The law of values: its programs, which may be; the document's examples. No conditions. -/
import Derived.Test.YtcmlghemanjaaaaPgJ
set_option linter.unusedVariables false
namespace Go.Proofs.Ytcmlghemanjaaaa.Pg
open Go Sl
/-- An instruction by its numbers. -/
structure Trn where
  op : Int
  to : Int
  a : Int
  b : Int
  c : Int
def Byt (x : Int) : Prop := 0 ≤ x ∧ x ≤ 255
structure Trn.Ok (x : Trn) : Prop where
  op : Byt x.op
  to : Byt x.to
  a : Byt x.a
  b : Byt x.b
  c : Byt x.c
def encTr : Enc Trn := ⟨5, fun i => [.int .u8 i.op, .int .u8 i.to, .int .u8 i.a, .int .u8 i.b, .int .u8 i.c], fun _ => rfl, by decide, fun _ => rfl⟩
abbrev vTr (i : Trn) : Value := .agg #[.int .u8 i.op, .int .u8 i.to, .int .u8 i.a, .int .u8 i.b, .int .u8 i.c]
theorem tmod_bd {a : Int} (h : 0 ≤ a) {b : Int} (hb : 0 < b) : 0 ≤ a.tmod b ∧ a.tmod b < b := ⟨Int.tmod_nonneg _ h, Int.tmod_lt_of_pos _ hb⟩
def op14 (x : Trn) : Int := 1 + x.op.tmod 8
def instr14 (regs : Int) (x : Trn) : Ins :=
  ⟨op14 x, x.to.tmod regs, x.a.tmod regs, if op14 x = 3 ∨ op14 x = 4 then x.b.tmod regs else 0, if op14 x = 3 ∨ op14 x = 4 then 0 else if 4 < op14 x then 1 + x.c.tmod 3 else 0⟩
def regs14 (ins regs : Int) : Int := 1 + ins.tmod 3 + regs.tmod 4
def outs14 (regs : Int) (us : List Int) : List Int := if us.length = 0 then [regs - 1] else us.map (·.tmod regs)
def prog14 (ins regs : Int) (ts : List Trn) (us : List Int) : Prg := ⟨1 + ins.tmod 3, regs14 ins regs, (ts.take 20).map (instr14 (regs14 ins regs)), outs14 (regs14 ins regs) (us.take 4)⟩
theorem instr14_may {x : Trn} (h : x.Ok) {regs : Int} (hr : 0 < regs) : May (instr14 regs x) regs := by
  have ho := tmod_bd h.op.1 (b := 8) (by decide)
  have ht := tmod_bd h.to.1 hr
  have ha := tmod_bd h.a.1 hr
  have hb := tmod_bd h.b.1 hr
  have hc := tmod_bd h.c.1 (b := 3) (by decide)
  have e : op14 x = 1 + x.op.tmod 8 := rfl
  refine ⟨?_, ?_, ht.1, ht.2, fun h2 => ?_, ?_, fun r hr2 => ?_⟩
  · show 1 ≤ op14 x; omega
  · show op14 x ≤ 8; omega
  · simp [two, instr14] at h2
    have h3 : ¬ (op14 x = 3 ∨ op14 x = 4) := fun e => e.elim (of_decide_eq_false h2.1) (of_decide_eq_false h2.2)
    simp [instr14, h3]
  · unfold constant instr14
    dsimp only
    by_cases h3 : op14 x = 3 ∨ op14 x = 4
    · rw [if_neg (by omega), if_neg (by omega), if_pos h3]; rfl
    · rw [if_neg h3]
      by_cases h4 : 4 < op14 x
      · rw [if_pos h4]
        by_cases h5 : op14 x = 5 ∨ op14 x = 6
        · rw [if_pos h5]; simp; omega
        · rw [if_neg h5, if_pos (by omega)]; simp; omega
      · rw [if_neg h4, if_neg (by omega), if_neg (by omega)]; simp
  · unfold asks instr14 at hr2
    dsimp only at hr2
    by_cases h3 : op14 x = 3 ∨ op14 x = 4
    · simp [h3] at hr2
      rcases hr2 with rfl | rfl
      · exact ha
      · exact hb
    · rw [if_neg h3, if_pos (by omega)] at hr2
      simp at hr2
      subst hr2
      exact ha
theorem prog14_right {ins regs : Int} {ts : List Trn} {us : List Int} (hi : Byt ins) (hr : Byt regs) (ht : ∀ x ∈ ts, x.Ok) (hu : ∀ u ∈ us, Byt u) : Right (prog14 ins regs ts us) := by
  have h1 := tmod_bd hi.1 (b := 3) (by decide)
  have h2 := tmod_bd hr.1 (b := 4) (by decide)
  have hR : regs14 ins regs = 1 + ins.tmod 3 + regs.tmod 4 := rfl
  have hpos : 0 < regs14 ins regs := by omega
  refine ⟨?_, ?_, ?_, ?_, ?_, ?_, fun r hr2 => ?_, fun i hi2 => ?_⟩
  · show 1 ≤ 1 + ins.tmod 3; omega
  · show 1 + ins.tmod 3 ≤ regs14 ins regs; omega
  · show regs14 ins regs ≤ 128; omega
  · simp [prog14]; omega
  · show 1 ≤ (outs14 _ _).length; unfold outs14; split
    · simp
    · rw [List.length_map]; omega
  · show (outs14 _ _).length ≤ 128; unfold outs14; split
    · simp
    · simp; omega
  · have hr3 : r ∈ outs14 (regs14 ins regs) (us.take 4) := hr2
    show 0 ≤ r ∧ r < regs14 ins regs
    unfold outs14 at hr3
    split at hr3
    · simp at hr3; omega
    · obtain ⟨u, hu1, rfl⟩ := List.mem_map.1 hr3
      exact tmod_bd (hu u (List.mem_of_mem_take hu1)).1 hpos
  · obtain ⟨x, hx, rfl⟩ := List.mem_map.1 hi2
    exact instr14_may (ht x (List.mem_of_mem_take hx)) hpos
instance (i : Ins) (r : Int) : Decidable (May i r) :=
  decidable_of_iff (1 ≤ i.op ∧ i.op ≤ 8 ∧ 0 ≤ i.to ∧ i.to < r ∧ (two i.op = false → i.b = 0) ∧ constant i = true ∧ ∀ x ∈ asks i, 0 ≤ x ∧ x < r)
    ⟨fun ⟨a, b, c, d, e, f, g⟩ => ⟨a, b, c, d, e, f, g⟩, fun h => ⟨h.op1, h.op8, h.to0, h.to1, h.b, h.c, h.asks⟩⟩
def kp : Prg := ⟨2, 4, [⟨3, 2, 0, 1, 0⟩, ⟨3, 3, 1, 0, 0⟩, ⟨4, 3, 3, 2, 0⟩], [3, 2]⟩
def kq : Prg := ⟨1, 3, [⟨3, 1, 2, 0, 0⟩, ⟨1, 1, 1, 0, 0⟩], [1]⟩
theorem kp_right : Right kp := ⟨by decide, by decide, by decide, by decide, by decide, by decide, by decide, by decide⟩
theorem kq_right : Right kq := ⟨by decide, by decide, by decide, by decide, by decide, by decide, by decide, by decide⟩
def kpp : Prg := ⟨2, 4, [⟨3, 2, 0, 1, 0⟩, ⟨1, 3, 2, 0, 0⟩, ⟨4, 3, 2, 2, 0⟩], [3, 2]⟩
def kqq : Prg := ⟨1, 3, [⟨3, 1, 1, 0, 0⟩], [1]⟩
theorem kp_pass : passP kp = kpp := by decide
theorem kq_pass : passP kq = kqq := by decide
theorem kp_vals : (run kp kp.code).vals = [3, 3, 4] := by decide
theorem kq_vals : (run kq kq.code).vals = [2, 2] := by decide
theorem take_stop {α : Type} {l : List α} {k b : Nat} (hb : k ≤ b) (hk : k ≤ l.length) (h : ¬ (k < l.length ∧ k < b)) : l.take k = l.take b := by
  rcases Nat.lt_or_ge k b with h1 | h1
  · have : k = l.length := by omega
    rw [List.take_of_length_le (by omega), List.take_of_length_le (by omega)]
  · rw [show k = b by omega]
theorem pairsF_length : ∀ (l : List Int) (n : Nat), (pairsF n l).length ≤ l.length
  | [], _ => Nat.le_refl _
  | f :: l, n => by
    have := pairsF_length l (n + 1)
    show (if 0 ≤ f ∧ f < n then ((n : Int), f) :: pairsF (n + 1) l else pairsF (n + 1) l).length ≤ _
    split <;> (simp; omega)
theorem pairs_length (l : List Int) : (pairs l).length ≤ l.length := pairsF_length l 0
theorem pairs_more {l : List Int} {k : Nat} {f : Int} (h : l[k]? = some f) (hk : k ≤ l.length) (h0 : 0 ≤ f) (h1 : f < k) : pairs (l.take k) ++ [((k : Int), f)] = pairs (l.take (k + 1)) := by
  have hl : (l.take k).length = k := by simp; omega
  rw [take_snoc' h, pairs_yes h0 (by rw [hl]; exact h1), hl]
theorem pairs_less {l : List Int} {k : Nat} {f : Int} (h : l[k]? = some f) (hk : k ≤ l.length) (h0 : ¬ (0 ≤ f ∧ f < k)) : pairs (l.take k) = pairs (l.take (k + 1)) := by
  have hl : (l.take k).length = k := by simp; omega
  rw [take_snoc' h, pairs_no (by rw [hl]; exact h0)]
theorem prefix_len {α : Type} {pre xs : List α} {x : α} (h : pre ++ [x] <+: xs) : pre.length < xs.length := by
  have := h.length_le
  simp at this
  omega
theorem prefix_at {α : Type} {pre xs : List α} {x : α} (h : pre ++ [x] <+: xs) : xs[pre.length]? = some x := by
  obtain ⟨m, rfl⟩ := h
  simp
theorem held_set {ins : Int} {k n : Nat} (h : k < n) : (newHeld ins k ++ List.replicate (n - k) (0 : Int)).set k (if ins < (k : Int) then ins else (k : Int)) = newHeld ins (k + 1) ++ List.replicate (n - (k + 1)) 0 := by
  have hl : (newHeld ins k).length = k := by simp [newHeld]
  have e : n - k = (n - (k + 1)) + 1 := by omega
  rw [List.set_append_right _ _ (by omega), hl, Nat.sub_self, e, List.replicate_succ, List.set_cons_zero]
  simp [newHeld, List.range_succ]
end Go.Proofs.Ytcmlghemanjaaaa.Pg
