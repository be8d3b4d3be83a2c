/- What a run's steps say; which pairs come up twice. No conditions. -/
import Derived.Test.YtcmlghemanjaaaaPgI
set_option linter.unusedVariables false
namespace Go.Proofs.Ytcmlghemanjaaaa.Pg
open Go Sl
theorem take_snoc' {α : Type} {l : List α} {k : Nat} {x : α} (h : l[k]? = some x) : l.take (k + 1) = l.take k ++ [x] := by
  rw [List.take_add_one, h]; rfl
theorem step_all {p : Prg} {k : Nat} {s : Run} {i : Ins} (hs : run p (p.code.take k) = s) (hi : p.code[k]? = some i) (h0 : 0 ≤ i.to) (h1 : i.to < s.t.held.length) :
    (reckon s.t k i).2.2.next = (run p (p.code.take (k + 1))).t.next ∧ (reckon s.t k i).2.2.known = (run p (p.code.take (k + 1))).t.known ∧ (reckon s.t k i).2.2.first = (run p (p.code.take (k + 1))).t.first ∧
    s.t.held.set i.to.toNat (reckon s.t k i).1 = (run p (p.code.take (k + 1))).t.held ∧ s.t.held.length = (run p (p.code.take (k + 1))).t.held.length ∧ s.vals ++ [(reckon s.t k i).1] = (run p (p.code.take (k + 1))).vals ∧ s.firsts ++ [(reckon s.t k i).2.1] = (run p (p.code.take (k + 1))).firsts := by
  have hk : k < p.code.length := (List.getElem?_eq_some_iff.1 hi).1
  have hv : s.vals.length = k := by rw [← hs, (run_vals p _).1]; simp; omega
  rw [take_snoc' hi, run_snoc, hs, step_t h0 h1, (step_vals s i).1, (step_vals s i).2, hv]
  refine ⟨rfl, rfl, rfl, ?_, ?_, rfl, rfl⟩
  · unfold setH; rw [reckon_held]
  · unfold setH; rw [reckon_held]; simp
theorem step_code {p : Prg} {k : Nat} {s : Run} {i : Ins} (hs : run p (p.code.take k) = s) (hi : p.code[k]? = some i) :
    (run p (p.code.take (k + 1))).code = if at_ s.t.held i.to = (reckon s.t k i).1 then s.code else s.code ++ [laid s.t.held i (reckon s.t k i).1] := by
  have hk : k < p.code.length := (List.getElem?_eq_some_iff.1 hi).1
  have hv : s.vals.length = k := by rw [← hs, (run_vals p _).1]; simp; omega
  rw [take_snoc' hi, run_snoc, hs]
  unfold step
  rw [hv]
  split <;> rfl
theorem prefix_fine {p : Prg} (h : Right p) {k : Nat} {s : Run} (hs : run p (p.code.take k) = s) : Fine s.t p.regs (p.ins + 1 + 16384) := by
  have := run_fine (l := p.code.take k) h.ins1 h.ins2 (fun i hi => h.may i (List.mem_of_mem_take hi))
  rw [hs] at this
  have hn := this.nx
  have hc := h.code
  have : (p.code.take k).length ≤ 16384 := by simp; omega
  exact ⟨‹Fine s.t _ _›.len, ‹Fine s.t _ _›.held, ‹Fine s.t _ _›.known, by omega⟩
/-- The instructions that reckon what was reckoned, and what they repeat. -/
def pairsF : Nat → List Int → List (Int × Int)
  | _, [] => []
  | n, f :: r => if 0 ≤ f ∧ f < n then ((n : Int), f) :: pairsF (n + 1) r else pairsF (n + 1) r
def pairs (l : List Int) : List (Int × Int) := pairsF 0 l
theorem pairsF_append : ∀ (l : List Int) (n : Nat) (m : List Int), pairsF n (l ++ m) = pairsF n l ++ pairsF (n + l.length) m
  | [], n, m => rfl
  | f :: l, n, m => by
    have e : ∀ (g : List Int), pairsF n (f :: g) = if 0 ≤ f ∧ f < n then ((n : Int), f) :: pairsF (n + 1) g else pairsF (n + 1) g := fun g => rfl
    rw [List.cons_append, e, e, pairsF_append l (n + 1) m, List.length_cons, show n + 1 + l.length = n + (l.length + 1) by omega]
    split <;> rfl
theorem pairs_prefix (l m : List Int) : pairs l <+: pairs (l ++ m) := by
  unfold pairs
  rw [pairsF_append]
  exact List.prefix_append _ _
theorem pairs_yes {l : List Int} {f : Int} (h0 : 0 ≤ f) (h1 : f < l.length) : pairs (l ++ [f]) = pairs l ++ [((l.length : Int), f)] := by
  unfold pairs
  rw [pairsF_append]
  congr 1
  unfold pairsF
  rw [if_pos ⟨h0, by omega⟩]
  simp [pairsF]
theorem pairs_no {l : List Int} {f : Int} (h : ¬ (0 ≤ f ∧ f < l.length)) : pairs (l ++ [f]) = pairs l := by
  unfold pairs
  rw [pairsF_append]
  unfold pairsF
  rw [if_neg (by intro hh; apply h; omega)]
  simp [pairsF]
theorem fold_firsts : ∀ (l : List Ins) (s : Run), ∃ m, (l.foldl step s).firsts = s.firsts ++ m
  | [], s => ⟨[], by simp⟩
  | i :: l, s => by
    obtain ⟨m, hm⟩ := fold_firsts l (step s i)
    rw [(step_vals s i).2] at hm
    exact ⟨[(reckon s.t s.vals.length i).2.1] ++ m, by rw [List.foldl_cons, hm, List.append_assoc]⟩
theorem firsts_prefix (p : Prg) (k : Nat) : ∃ m, (run p p.code).firsts = (run p (p.code.take k)).firsts ++ m := by
  have h := fold_firsts (p.code.drop k) (run p (p.code.take k))
  obtain ⟨m, hm⟩ := h
  refine ⟨m, ?_⟩
  rw [← hm]
  show (p.code.foldl step _).firsts = _
  conv => lhs; rw [← List.take_append_drop k p.code]
  rw [List.foldl_append]
  rfl
theorem pairs_take (p : Prg) (k : Nat) : pairs (run p (p.code.take k)).firsts <+: pairs (run p p.code).firsts := by
  obtain ⟨m, hm⟩ := firsts_prefix p k
  rw [hm]
  exact pairs_prefix _ _
/-- The outs, by the first holders. -/
def outsOf (s : Run) (l : List Int) : List Int := l.map fun r => holder s.t.held (at_ s.t.held r)
theorem outsOf_snoc (s : Run) {l : List Int} {k : Nat} {r : Int} (h : l[k]? = some r) : outsOf s (l.take k) ++ [holder s.t.held (at_ s.t.held r)] = outsOf s (l.take (k + 1)) := by
  rw [take_snoc' h]; unfold outsOf; rw [List.map_append]; rfl
theorem code_eq {p : Prg} {k : Nat} {s : Run} {i : Ins} (hs : run p (p.code.take k) = s) (hi : p.code[k]? = some i) (h : at_ s.t.held i.to = (reckon s.t k i).1) : s.code = (run p (p.code.take (k + 1))).code := by
  rw [step_code hs hi, if_pos h]
theorem code_move {p : Prg} {k : Nat} {s : Run} {i : Ins} (hs : run p (p.code.take k) = s) (hi : p.code[k]? = some i) (h : ¬ at_ s.t.held i.to = (reckon s.t k i).1) (h2 : 0 ≤ holder s.t.held (reckon s.t k i).1) :
    s.code ++ [⟨1, i.to, holder s.t.held (reckon s.t k i).1, 0, 0⟩] = (run p (p.code.take (k + 1))).code := by
  rw [step_code hs hi, if_neg h]; unfold laid; rw [if_pos h2]
theorem code_ask {p : Prg} {k : Nat} {s : Run} {i : Ins} (hs : run p (p.code.take k) = s) (hi : p.code[k]? = some i) (h : ¬ at_ s.t.held i.to = (reckon s.t k i).1) (h2 : ¬ 0 ≤ holder s.t.held (reckon s.t k i).1) :
    s.code ++ [asked s.t.held i] = (run p (p.code.take (k + 1))).code := by
  rw [step_code hs hi, if_neg h]; unfold laid; rw [if_neg h2]
end Go.Proofs.Ytcmlghemanjaaaa.Pg
