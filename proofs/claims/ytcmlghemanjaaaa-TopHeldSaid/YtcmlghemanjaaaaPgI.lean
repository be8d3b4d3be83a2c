/- The pass of values, step by step, as plain functions; it is idempotent. No conditions. -/
import Derived.Test.YtcmlghemanjaaaaPgH
import Derived.Test.YtcmlghemanjaaaaSlT
set_option linter.unusedVariables false
namespace Go.Proofs.Ytcmlghemanjaaaa.Pg
open Go Sl
theorem at_mem {l : List Int} {i : Int} (h0 : 0 ≤ i) (h : i < l.length) : at_ l i ∈ l := List.mem_of_getElem? (at_some h0 h)
theorem at_nat {l : List Int} {k : Nat} {v : Int} (h : l[k]? = some v) : at_ l k = v := by unfold at_; rw [List.getD_eq_getElem?_getD, Int.toNat_natCast, h]; rfl
theorem set_at {l : List Int} {i : Int} (h0 : 0 ≤ i) (h : i < l.length) : l.set i.toNat (at_ l i) = l := by
  apply List.ext_getElem?
  intro j
  rw [List.getElem?_set]
  split
  · rename_i e
    subst e
    rw [if_pos (by omega), at_some h0 h]
  · rfl
/-- What is known is as it may be. -/
structure Fine (t : Tab) (regs : Int) (b : Int) : Prop where
  len : (t.held.length : Int) = regs
  held : ∀ x ∈ t.held, 0 ≤ x ∧ x < t.next
  known : ∀ p ∈ t.known, 0 ≤ p.2 ∧ p.2 < t.next
  nx : 1 ≤ t.next ∧ t.next ≤ b
def setH (t : Tab) (to v : Int) : Tab := { t with held := t.held.set to.toNat v }
structure Run where
  t : Tab
  vals : List Int
  firsts : List Int
  code : List Ins
/-- What is laid for an instruction that reckons v. -/
def laid (held : List Int) (i : Ins) (v : Int) : Ins := if 0 ≤ holder held v then ⟨1, i.to, holder held v, 0, 0⟩ else asked held i
def step (s : Run) (i : Ins) : Run :=
  if at_ s.t.held i.to = (reckon s.t s.vals.length i).1 then ⟨(reckon s.t s.vals.length i).2.2, s.vals ++ [(reckon s.t s.vals.length i).1], s.firsts ++ [(reckon s.t s.vals.length i).2.1], s.code⟩
  else ⟨setH (reckon s.t s.vals.length i).2.2 i.to (reckon s.t s.vals.length i).1, s.vals ++ [(reckon s.t s.vals.length i).1], s.firsts ++ [(reckon s.t s.vals.length i).2.1], s.code ++ [laid s.t.held i (reckon s.t s.vals.length i).1]⟩
def run (p : Prg) (l : List Ins) : Run := l.foldl step ⟨newTab p, [], [], []⟩
theorem run_snoc (p : Prg) (l : List Ins) (i : Ins) : run p (l ++ [i]) = step (run p l) i := by unfold run; rw [List.foldl_append]; rfl
theorem step_vals (s : Run) (i : Ins) : (step s i).vals = s.vals ++ [(reckon s.t s.vals.length i).1] ∧ (step s i).firsts = s.firsts ++ [(reckon s.t s.vals.length i).2.1] := by unfold step; split <;> exact ⟨rfl, rfl⟩
theorem step_codelen (s : Run) (i : Ins) : (step s i).code.length ≤ s.code.length + 1 := by unfold step; split <;> simp
theorem fold_vals : ∀ (l : List Ins) (s : Run), (l.foldl step s).vals.length = s.vals.length + l.length ∧ (l.foldl step s).firsts.length = s.firsts.length + l.length ∧ (l.foldl step s).code.length ≤ s.code.length + l.length
  | [], s => ⟨rfl, rfl, Nat.le_refl _⟩
  | i :: l, s => by
    have h := fold_vals l (step s i)
    have h2 := step_vals s i
    have h3 := step_codelen s i
    rw [List.foldl_cons]
    rw [h2.1, h2.2] at h
    simp at h ⊢
    omega
theorem run_vals (p : Prg) (l : List Ins) : (run p l).vals.length = l.length ∧ (run p l).firsts.length = l.length ∧ (run p l).code.length ≤ l.length := by
  have := fold_vals l ⟨newTab p, [], [], []⟩
  simpa [run] using this
theorem reckon_held (t : Tab) (n : Int) (i : Ins) : (reckon t n i).2.2.held = t.held := by
  unfold reckon
  split
  · rfl
  · split <;> rfl
theorem step_t {s : Run} {i : Ins} (h0 : 0 ≤ i.to) (h1 : i.to < s.t.held.length) : (step s i).t = setH (reckon s.t s.vals.length i).2.2 i.to (reckon s.t s.vals.length i).1 := by
  unfold step
  split
  · rename_i h
    have h2 := set_at h0 h1
    rw [h] at h2
    unfold setH
    rw [reckon_held, h2]
    have h3 := reckon_held s.t s.vals.length i
    cases hr : (reckon s.t s.vals.length i).2.2
    rw [hr] at h3
    simp at h3
    subst h3
    rfl
  · rfl
theorem may_a {i : Ins} {regs : Int} (h : May i regs) : 0 ≤ i.a ∧ i.a < regs := h.asks i.a (by
  unfold asks
  split
  · simp
  · rw [if_pos ⟨h.op1, h.op8⟩]; simp)
theorem may_b {i : Ins} {regs : Int} (h : May i regs) (ho : i.op = 3 ∨ i.op = 4) : 0 ≤ i.b ∧ i.b < regs := h.asks i.b (by unfold asks; rw [if_pos ho]; simp)
theorem c_bd {i : Ins} {regs : Int} (h : May i regs) : -512 ≤ i.c ∧ i.c ≤ 512 := by
  have := h.c
  unfold constant at this
  split at this
  · simp at this; omega
  · split at this
    · simp at this; omega
    · simp at this; omega
section
variable {t : Tab} {regs b n : Int} {i : Ins}
theorem held_bd (hf : Fine t regs b) {r : Int} (h : 0 ≤ r ∧ r < regs) : 0 ≤ at_ t.held r ∧ at_ t.held r < t.next := hf.held _ (at_mem h.1 (by rw [hf.len]; exact h.2))
theorem keyed_key (hf : Fine t regs b) (hb : b ≤ 1000000) (hm : May i regs) : (-9223372036854775808 ≤ (keyed t.held i).1 ∧ (keyed t.held i).1 ≤ 9223372036854775807) ∧ (-9223372036854775808 ≤ (keyed t.held i).2.1 ∧ (keyed t.held i).2.1 ≤ 9223372036854775807) ∧ (-9223372036854775808 ≤ (keyed t.held i).2.2.1 ∧ (keyed t.held i).2.2.1 ≤ 9223372036854775807) ∧ (-9223372036854775808 ≤ (keyed t.held i).2.2.2 ∧ (keyed t.held i).2.2.2 ≤ 9223372036854775807) := by
  have h1 := hm.op1
  have h8 := hm.op8
  have hc := c_bd hm
  have ha := held_bd hf (may_a hm)
  have hn := hf.nx
  unfold keyed
  split
  · rename_i ho
    have hbb := held_bd hf (may_b hm ho)
    split <;> (dsimp only; omega)
  · dsimp only; omega
theorem reckon_fine (hf : Fine t regs b) (hm : May i regs) : Fine (reckon t n i).2.2 regs (b + 1) ∧ 0 ≤ (reckon t n i).1 ∧ (reckon t n i).1 < (reckon t n i).2.2.next := by
  have hn := hf.nx
  have up : Fine t regs (b + 1) := ⟨hf.len, hf.held, hf.known, by omega⟩
  unfold reckon
  split
  · exact ⟨up, held_bd hf (may_a hm)⟩
  · split
    · rename_i v hv
      exact ⟨up, hf.known _ (mget_some_mem hv)⟩
    · refine ⟨⟨hf.len, fun x hx => ?_, fun p hp => ?_, ?_⟩, ?_⟩
      · have := hf.held x hx; dsimp only; omega
      · rcases mput_mem hp with hp | rfl
        · have := hf.known p hp; dsimp only; omega
        · dsimp only; omega
      · dsimp only; omega
      · dsimp only; omega
theorem setH_fine {v : Int} {to : Int} (hf : Fine t regs b) (hv : 0 ≤ v ∧ v < t.next) : Fine (setH t to v) regs b :=
  ⟨by unfold setH; simp [hf.len], fun x hx => by
    rcases List.mem_or_eq_of_mem_set hx with hx | rfl
    · exact hf.held x hx
    · exact hv, hf.known, hf.nx⟩
end
theorem newTab_fine {p : Prg} (h1 : 1 ≤ p.ins) (h2 : p.ins ≤ p.regs) : Fine (newTab p) p.regs (p.ins + 1) := by
  refine ⟨by simp [newTab, newHeld]; omega, fun x hx => ?_, fun q hq => by simp [newTab] at hq, by simp [newTab]; omega⟩
  simp only [newTab, newHeld, List.mem_map, List.mem_range] at hx
  obtain ⟨r, hr, rfl⟩ := hx
  simp only [newTab]
  split <;> omega
theorem step_fine {s : Run} {regs b : Int} {i : Ins} (hf : Fine s.t regs b) (hm : May i regs) : Fine (step s i).t regs (b + 1) := by
  rw [step_t hm.to0 (by rw [hf.len]; exact hm.to1)]
  have := reckon_fine (n := s.vals.length) hf hm
  exact setH_fine this.1 this.2
theorem fold_fine : ∀ (l : List Ins) {s : Run} {regs b : Int}, Fine s.t regs b → (∀ i ∈ l, May i regs) → Fine (l.foldl step s).t regs (b + l.length)
  | [], s, regs, b, hf, _ => by simpa using hf
  | i :: l, s, regs, b, hf, hm => by
    have := fold_fine l (step_fine hf (hm i (List.mem_cons_self ..))) fun j hj => hm j (List.mem_cons_of_mem _ hj)
    rw [List.foldl_cons, List.length_cons]
    rw [show b + ((l.length + 1 : Nat) : Int) = b + 1 + l.length by omega]
    exact this
theorem run_fine {p : Prg} {l : List Ins} (h1 : 1 ≤ p.ins) (h2 : p.ins ≤ p.regs) (hm : ∀ i ∈ l, May i p.regs) : Fine (run p l).t p.regs (p.ins + 1 + l.length) := fold_fine l (newTab_fine h1 h2) hm
/-! ### who holds a value -/
theorem holder_cases (held : List Int) (v : Int) : (holder held v = -1 ∧ v ∉ held) ∨ (0 ≤ holder held v ∧ holder held v < held.length ∧ at_ held (holder held v) = v) := by
  by_cases h : v ∈ held
  · right
    have key : ∀ m : Nat, (∃ k : Nat, k ≤ m ∧ held[k]? = some v) → ∃ k : Nat, held[k]? = some v ∧ ∀ j, j < k → held[j]? ≠ some v := by
      intro m
      induction m with
      | zero => rintro ⟨k, hk, hv⟩; exact ⟨k, hv, fun j hj => by omega⟩
      | succ m ih =>
        rintro ⟨k, hk, hv⟩
        by_cases e : ∃ k : Nat, k ≤ m ∧ held[k]? = some v
        · exact ih e
        · exact ⟨k, hv, fun j hj hj2 => e ⟨j, by omega, hj2⟩⟩
    obtain ⟨k0, hk0⟩ := List.mem_iff_getElem?.1 h
    obtain ⟨k, hk, hno⟩ := key k0 ⟨k0, Nat.le_refl _, hk0⟩
    have hlt := (List.getElem?_eq_some_iff.1 hk).1
    rw [holder_hit hk hno]
    exact ⟨by omega, by omega, at_nat hk⟩
  · left
    exact ⟨holder_none fun j hj e => h (List.mem_of_getElem? e), h⟩
theorem holder_mem {held : List Int} {v : Int} (h : v ∈ held) : 0 ≤ holder held v ∧ holder held v < held.length ∧ at_ held (holder held v) = v := by
  rcases holder_cases held v with h2 | h2
  · exact absurd h h2.2
  · exact h2
theorem holder_at {held : List Int} {r : Int} (h0 : 0 ≤ r) (h : r < held.length) : 0 ≤ holder held (at_ held r) ∧ holder held (at_ held r) < held.length ∧ at_ held (holder held (at_ held r)) = at_ held r := holder_mem (at_mem h0 h)
/-! ### the pass -/
def passP (p : Prg) : Prg := ⟨p.ins, p.regs, (run p p.code).code, p.outs.map fun r => holder (run p p.code).t.held (at_ (run p p.code).t.held r)⟩
section
variable {held : List Int} {regs : Int} {i : Ins}
theorem asked_may (hl : (held.length : Int) = regs) (hm : May i regs) : May (asked held i) regs := by
  have ha := may_a hm
  have h := holder_at (held := held) ha.1 (by omega)
  have hb : i.op = 3 ∨ i.op = 4 → 0 ≤ holder held (at_ held i.b) ∧ holder held (at_ held i.b) < held.length := fun ho => by
    have := may_b hm ho
    have := holder_at (held := held) this.1 (by omega)
    omega
  refine ⟨hm.op1, hm.op8, hm.to0, hm.to1, fun h2 => ?_, hm.c, fun r hr => ?_⟩
  · have h3 := hm.b h2
    have : ¬ (i.op = 3 ∨ i.op = 4) := by simp [two, asked] at h2; exact fun e => e.elim (of_decide_eq_false h2.1) (of_decide_eq_false h2.2)
    unfold asked
    rw [if_neg this]
    exact h3
  · unfold asks asked at hr
    dsimp only at hr
    split at hr
    · rename_i ho
      have := hb ho
      simp [ho] at hr
      rcases hr with rfl | rfl <;> omega
    · rw [if_pos ⟨hm.op1, hm.op8⟩] at hr
      simp at hr
      subst hr
      omega
theorem laid_may {v : Int} (hl : (held.length : Int) = regs) (hm : May i regs) : May (laid held i v) regs := by
  unfold laid
  split
  · rename_i h
    rcases holder_cases held v with h2 | h2
    · omega
    · refine ⟨Int.le_refl 1, (show (1 : Int) ≤ 8 by decide), hm.to0, hm.to1, fun _ => rfl, rfl, fun r hr => ?_⟩
      simp [asks] at hr
      subst hr
      omega
  · exact asked_may hl hm
theorem keyed_asked (hl : (held.length : Int) = regs) (hm : May i regs) : keyed held (asked held i) = keyed held i := by
  have ha := may_a hm
  have h := (holder_at (held := held) ha.1 (by omega)).2.2
  unfold keyed asked
  by_cases ho : i.op = 3 ∨ i.op = 4
  · have hb := may_b hm ho
    have h2 := (holder_at (held := held) hb.1 (by omega)).2.2
    simp only [if_pos ho, h, h2]
  · simp only [if_neg ho, h]
theorem asked_asked (hl : (held.length : Int) = regs) (hm : May i regs) : asked held (asked held i) = asked held i := by
  have ha := may_a hm
  have h := (holder_at (held := held) ha.1 (by omega)).2.2
  unfold asked
  by_cases ho : i.op = 3 ∨ i.op = 4
  · have hb := may_b hm ho
    have h2 := (holder_at (held := held) hb.1 (by omega)).2.2
    simp only [if_pos ho, h, h2]
  · simp only [if_neg ho, h]
end
theorem step_may {s : Run} {regs b : Int} {i : Ins} (hf : Fine s.t regs b) (hm : May i regs) (hc : ∀ j ∈ s.code, May j regs) : ∀ j ∈ (step s i).code, May j regs := by
  intro j hj
  unfold step at hj
  split at hj
  · exact hc j hj
  · rcases List.mem_append.1 hj with hj | hj
    · exact hc j hj
    · simp at hj; subst hj; exact laid_may hf.len hm
theorem fold_may : ∀ (l : List Ins) {s : Run} {regs b : Int}, Fine s.t regs b → (∀ i ∈ l, May i regs) → (∀ j ∈ s.code, May j regs) → ∀ j ∈ (l.foldl step s).code, May j regs
  | [], _, _, _, _, _, hc => hc
  | i :: l, s, regs, b, hf, hm, hc => fold_may l (step_fine hf (hm i (List.mem_cons_self ..))) (fun j hj => hm j (List.mem_cons_of_mem _ hj)) (step_may hf (hm i (List.mem_cons_self ..)) hc)
theorem run_may {p : Prg} {l : List Ins} (h1 : 1 ≤ p.ins) (h2 : p.ins ≤ p.regs) (hm : ∀ i ∈ l, May i p.regs) : ∀ j ∈ (run p l).code, May j p.regs := fold_may l (newTab_fine h1 h2) hm (by simp)
theorem Right.pass {p : Prg} (h : Right p) : Right (passP p) := by
  have hf := run_fine h.ins1 h.ins2 h.may
  refine ⟨h.ins1, h.ins2, h.regs, Nat.le_trans (run_vals p p.code).2.2 h.code, by simpa [passP] using h.outs1, by simpa [passP] using h.outs2, fun r hr => ?_, run_may h.ins1 h.ins2 h.may⟩
  simp only [passP, List.mem_map] at hr
  obtain ⟨o, ho, rfl⟩ := hr
  have h2 := h.outs o ho
  have := hf.len
  have := holder_at (held := (run p p.code).t.held) h2.1 (by omega)
  show _ ∧ _ < p.regs
  omega
/-- Two runs know the same. -/
structure Sim (s u : Run) : Prop where
  held : u.t.held = s.t.held
  known : u.t.known = s.t.known
  next : u.t.next = s.t.next
  code : u.code = s.code
theorem reckon_known {t u : Tab} {n m : Int} {i j : Ins} (h1 : u.held = t.held) (h2 : u.known = t.known) (h3 : u.next = t.next) (hi : ¬ i.op = 1) (hj : ¬ j.op = 1) (hk : keyed t.held j = keyed t.held i) :
    (reckon u m j).1 = (reckon t n i).1 ∧ (reckon u m j).2.2.known = (reckon t n i).2.2.known ∧ (reckon u m j).2.2.next = (reckon t n i).2.2.next := by
  unfold reckon
  rw [if_neg hi, if_neg hj, h1, hk, h2]
  split
  · exact ⟨rfl, h2, h3⟩
  · exact ⟨h3, by rw [h3], by rw [h3]⟩
/-- A value that is held is not new. -/
theorem reckon_old {t : Tab} {regs b n : Int} {i : Ins} (hf : Fine t regs b) (h : (reckon t n i).1 ∈ t.held) : (reckon t n i).2.2.known = t.known ∧ (reckon t n i).2.2.next = t.next := by
  unfold reckon at h ⊢
  split
  · exact ⟨rfl, rfl⟩
  · rename_i ho
    rw [if_neg ho] at h
    split
    · exact ⟨rfl, rfl⟩
    · rename_i hg
      rw [hg] at h
      have := hf.held _ h
      dsimp only at this
      omega
theorem sim_step {s u : Run} {regs b : Int} {i : Ins} (hs : Sim s u) (hf : Fine s.t regs b) (hm : May i regs) (hv : at_ s.t.held i.to ≠ (reckon s.t s.vals.length i).1) : Sim (step s i) (step u (laid s.t.held i (reckon s.t s.vals.length i).1)) := by
  obtain ⟨v, hvv⟩ : ∃ v, (reckon s.t s.vals.length i).1 = v := ⟨_, rfl⟩
  have hlen := hf.len
  have hh := reckon_held s.t s.vals.length i
  have e1 : step s i = ⟨setH (reckon s.t s.vals.length i).2.2 i.to v, s.vals ++ [v], s.firsts ++ [(reckon s.t s.vals.length i).2.1], s.code ++ [laid s.t.held i v]⟩ := by
    unfold step
    rw [if_neg hv, hvv]
  rw [hvv] at hv
  rw [hvv, e1]
  have key : ∀ j : Ins, j.to = i.to → (reckon u.t u.vals.length j).1 = v → (reckon u.t u.vals.length j).2.2.known = (reckon s.t s.vals.length i).2.2.known → (reckon u.t u.vals.length j).2.2.next = (reckon s.t s.vals.length i).2.2.next → laid s.t.held j v = laid s.t.held i v →
      Sim ⟨setH (reckon s.t s.vals.length i).2.2 i.to v, s.vals ++ [v], s.firsts ++ [(reckon s.t s.vals.length i).2.1], s.code ++ [laid s.t.held i v]⟩ (step u j) := by
    intro j ht h1 h2 h3 h4
    unfold step
    rw [hs.held, ht, h1, if_neg hv]
    refine ⟨?_, h2, h3, ?_⟩
    · simp only [setH, hh, reckon_held, hs.held]
    · simp only [hs.code, h4]
  by_cases hp : 0 ≤ holder s.t.held v
  · have hc : 0 ≤ holder s.t.held v ∧ holder s.t.held v < s.t.held.length ∧ at_ s.t.held (holder s.t.held v) = v := by
      rcases holder_cases s.t.held v with h2 | h2
      · omega
      · exact h2
    have hmem : v ∈ s.t.held := by have := at_mem hc.1 hc.2.1; rwa [hc.2.2] at this
    have hold := reckon_old hf (n := s.vals.length) (i := i) (by rw [hvv]; exact hmem)
    have el : laid s.t.held i v = ⟨1, i.to, holder s.t.held v, 0, 0⟩ := by unfold laid; rw [if_pos hp]
    have er : reckon u.t u.vals.length ⟨1, i.to, holder s.t.held v, 0, 0⟩ = (at_ u.t.held (holder s.t.held v), -1, u.t) := by unfold reckon; rw [if_pos rfl]
    have h5 := key ⟨1, i.to, holder s.t.held v, 0, 0⟩ rfl (by rw [er, hs.held, hc.2.2]) (by rw [er, hold.1, hs.known]) (by rw [er, hold.2, hs.next]) (by unfold laid; rw [if_pos hp, if_pos hp])
    rw [el]
    rw [el] at h5
    exact h5
  · have el : laid s.t.held i v = asked s.t.held i := by unfold laid; rw [if_neg hp]
    have hno : ¬ i.op = 1 := by
      intro ho
      apply hp
      have ha := may_a hm
      have : v = at_ s.t.held i.a := by rw [← hvv]; unfold reckon; rw [if_pos ho]
      rw [this]
      exact (holder_at ha.1 (by omega)).1
    have hk := reckon_known (n := s.vals.length) (m := u.vals.length) hs.held hs.known hs.next hno (show ¬ (asked s.t.held i).op = 1 from hno) (keyed_asked hlen hm)
    rw [hvv] at hk
    have h5 := key (asked s.t.held i) rfl hk.1 hk.2.1 hk.2.2 (by unfold laid; rw [if_neg hp, if_neg hp, asked_asked hlen hm])
    rw [el]
    rw [el] at h5
    exact h5
theorem sim_skip {s u : Run} {regs b : Int} {i : Ins} (hs : Sim s u) (hf : Fine s.t regs b) (hm : May i regs) (hv : at_ s.t.held i.to = (reckon s.t s.vals.length i).1) : Sim (step s i) u := by
  have hmem : (reckon s.t s.vals.length i).1 ∈ s.t.held := by rw [← hv]; exact at_mem hm.to0 (by rw [hf.len]; exact hm.to1)
  have hold := reckon_old hf hmem
  unfold step
  rw [if_pos hv]
  exact ⟨by rw [hs.held]; exact (reckon_held _ _ _).symm, by rw [hs.known]; exact hold.1.symm, by rw [hs.next]; exact hold.2.symm, hs.code⟩
theorem fold_sim : ∀ (l : List Ins) {s u : Run} {regs b : Int}, Sim s u → Fine s.t regs b → (∀ i ∈ l, May i regs) → ∃ l', (l.foldl step s).code = s.code ++ l' ∧ Sim (l.foldl step s) (l'.foldl step u)
  | [], s, u, regs, b, hs, _, _ => ⟨[], by simp, by simpa using hs⟩
  | i :: l, s, u, regs, b, hs, hf, hm => by
    have hmi := hm i (List.mem_cons_self ..)
    have hf' := step_fine hf hmi
    have hm' : ∀ j ∈ l, May j regs := fun j hj => hm j (List.mem_cons_of_mem _ hj)
    rw [List.foldl_cons]
    by_cases hv : at_ s.t.held i.to = (reckon s.t s.vals.length i).1
    · obtain ⟨l', h1, h2⟩ := fold_sim l (sim_skip hs hf hmi hv) hf' hm'
      have hc : (step s i).code = s.code := by unfold step; rw [if_pos hv]
      exact ⟨l', by rw [h1, hc], h2⟩
    · obtain ⟨l', h1, h2⟩ := fold_sim l (sim_step hs hf hmi hv) hf' hm'
      have hc : (step s i).code = s.code ++ [laid s.t.held i (reckon s.t s.vals.length i).1] := by unfold step; rw [if_neg hv]
      exact ⟨laid s.t.held i (reckon s.t s.vals.length i).1 :: l', by rw [h1, hc]; simp, by rw [List.foldl_cons]; exact h2⟩
theorem run_again {p : Prg} (h : Right p) : Sim (run p p.code) (run p (run p p.code).code) := by
  obtain ⟨l', h1, h2⟩ := fold_sim p.code (s := ⟨newTab p, [], [], []⟩) (u := ⟨newTab p, [], [], []⟩) ⟨rfl, rfl, rfl, rfl⟩ (newTab_fine h.ins1 h.ins2) h.may
  have e : (run p p.code).code = l' := by rw [show run p p.code = p.code.foldl step ⟨newTab p, [], [], []⟩ from rfl, h1]; simp
  rw [e]
  exact h2
theorem passP_passP {p : Prg} (h : Right p) : passP (passP p) = passP p := by
  have hs := run_again h
  have hf := run_fine h.ins1 h.ins2 h.may
  have e : run (passP p) (passP p).code = run p (run p p.code).code := rfl
  have e2 : passP (passP p) = ⟨p.ins, p.regs, (run (passP p) (passP p).code).code, (passP p).outs.map fun r => holder (run (passP p) (passP p).code).t.held (at_ (run (passP p) (passP p).code).t.held r)⟩ := rfl
  rw [e2, e, hs.code, hs.held]
  unfold passP
  simp only [List.map_map]
  congr 1
  apply List.map_congr_left
  intro r hr
  have h2 := h.outs r hr
  have := hf.len
  simp only [Function.comp]
  rw [(holder_at (held := (run p p.code).t.held) h2.1 (by omega)).2.2]
end Go.Proofs.Ytcmlghemanjaaaa.Pg
