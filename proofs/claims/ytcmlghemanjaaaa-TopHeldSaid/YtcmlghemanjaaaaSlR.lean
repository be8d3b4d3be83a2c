/- From a walk to a row: a law's arguments opened into pieces; what it left alone reads as it did. Nothing about one program. No conditions. -/
import Derived.Test.YtcmlghemanjaaaaSlH
import Derived.OpenShut
import Derived.ProofKit
import Derived.Carry
import Derived.Deep.Slices
set_option linter.unusedVariables false
set_option linter.unusedSimpArgs false
set_option linter.unusedSectionVars false
namespace Go.Proofs.Ytcmlghemanjaaaa.Sl
open Go Go.RowKit Go.ChangeShapes Go.WideShapes

section
variable {H : Type} {enc : TypeId × Value → H} {P : Program} {W : World}
/-- A plain address: one that a cell is read at. -/
theorem plain_of_cell {w : World} {a : Addr} {v : Value} (h : w.cell? a = some v) : a.spot = none ∧ a.block < w.heap.size := by
  constructor
  · cases hs : a.spot with
    | none => rfl
    | some s =>
      simp only [World.cell?, hs, Option.isSome_some, if_true] at h
      split at h <;> cases h
  · rcases Nat.lt_or_ge a.block w.heap.size with hl | hl
    · exact hl
    · have hn : w.heap[a.block]? = none := by simp [hl]
      simp [World.cell?, hn] at h
/-- A slice of elements whose reading tells their cells, opened. -/
theorem open_elems {α : Type} (N : Enc α) (ok : α → Prop) {t e : TypeId} {r : Reach} {b0 : Nat} {v : Value} {d : DataW H} {ps : List MemPlace} (ht : P.underlying t = some (.slice e)) (hk : P.cellsOf e = N.k)
    (hval : Value.okWide P W r b0 t v) (h : DataW.Trod enc P W 0 (fun _ => true) true t v d ps)
    (hel : ∀ (cs : List Value) n x, cs.length = N.k → DataW.trod enc P W 0 (fun _ => true) true n e cs = some x → ∃ y, cs = N.f y ∧ ok y) :
    ∃ A n ys, v = .slice A ys.length n ∧ (∀ y ∈ ys, ok y) ∧ ys.length ≤ n ∧ n ≤ maxLen ∧ (roE N A ys).ok W ∧ ∀ b ∈ (roE N A ys).dom, b < W.heap.size := by
  obtain ⟨a0, len, cap, rfl⟩ := okWide_slice ht hval
  obtain ⟨fuel, hf⟩ := h
  rcases Go.Deep.open_slice ht hf with ⟨hcs, hx⟩ | ⟨a, len', cap', m, n, D, Pl, hcs, hb, hl, hm, hmm, hx, hi⟩
  · simp [Value.cells] at hcs
    obtain ⟨rfl, rfl, rfl⟩ := hcs
    exact ⟨none, 0, [], rfl, by simp, by simp, by simp, fun j v hj => by simp [Enc.row] at hj, fun b hb => by cases hb⟩
  · simp [Value.cells] at hcs
    obtain ⟨rfl, rfl, rfl⟩ := hcs
    simp only [if_true] at hmm
    subst hmm
    have hy : ∀ i, i < len → ∃ y, W.cells? 0 (a.add (i * N.k)) N.k = some (N.f y) ∧ ok y := by
      intro i hi'
      obtain ⟨cs', h1, h2⟩ := hi i (by omega)
      rw [hk] at h1
      obtain ⟨_, hlen, _⟩ := World.cells?_some h1
      obtain ⟨y, rfl, hy⟩ := hel cs' n _ hlen h2
      exact ⟨y, h1, hy⟩
    have hex : ∀ k, k ≤ len → ∃ ys : List α, ys.length = k ∧ ∀ i y, ys[i]? = some y → W.cells? 0 (a.add (i * N.k)) N.k = some (N.f y) ∧ ok y := by
      intro k
      induction k with
      | zero => intro _; exact ⟨[], rfl, by simp⟩
      | succ k ih =>
        intro hk'
        obtain ⟨ys, h1, h2⟩ := ih (by omega)
        obtain ⟨y, h3, h4⟩ := hy k (by omega)
        refine ⟨ys ++ [y], by simp [h1], fun i z hz => ?_⟩
        rw [List.getElem?_append] at hz
        split at hz
        · exact h2 i z hz
        · rename_i hge
          have : i - ys.length = 0 := by
            rcases Nat.eq_zero_or_pos (i - ys.length) with h0 | h0
            · exact h0
            · rw [List.getElem?_eq_none (by simp; omega)] at hz; cases hz
          have hik : i = k := by omega
          subst hik
          rw [this] at hz
          simp at hz
          subst hz
          exact ⟨h3, h4⟩
    obtain ⟨ys, hlen, hys⟩ := hex len (Nat.le_refl _)
    have hcell : ∀ j v, (N.row ys)[j]? = some v → W.cell? (a.add j) = some v := by
      intro j v hj
      have hpos := N.pos
      have hjl : j < ys.length * N.k := by
        rw [← N.row_length]
        exact (List.getElem?_eq_some_iff.1 hj).1
      have hq : j / N.k < ys.length := Nat.div_lt_of_lt_mul (by rw [Nat.mul_comm]; exact hjl)
      obtain ⟨y, hyq⟩ : ∃ y, ys[j / N.k]? = some y := ⟨_, List.getElem?_eq_getElem hq⟩
      obtain ⟨hc, _⟩ := hys _ _ hyq
      obtain ⟨_, hl2, hat⟩ := World.cells?_some hc
      have hmod : j % N.k < N.k := Nat.mod_lt _ hpos
      have h2 := hat (j % N.k) hmod
      rw [Go.Deep.add_add, show j / N.k * N.k + j % N.k = j by rw [Nat.mul_comm]; exact Nat.div_add_mod _ _] at h2
      obtain ⟨u, hu⟩ : ∃ u, (N.f y)[j % N.k]? = some u := ⟨_, List.getElem?_eq_getElem (by rw [N.len]; exact hmod)⟩
      have h3 := N.row_at ys _ y hyq _ u hu
      rw [show j / N.k * N.k + j % N.k = j by rw [Nat.mul_comm]; exact Nat.div_add_mod _ _, hj] at h3
      rw [h2, hu, h3]
    refine ⟨some a, m, ys, by rw [hlen], fun y hy => ?_, by omega, hm, fun j v hj => ?_, fun b hb => ?_⟩
    · obtain ⟨i, hi1⟩ := List.mem_iff_getElem?.1 hy
      exact (hys i y hi1).2
    · have hc := hcell j v hj
      have hspot : a.spot = none := by
        cases hr : N.row ys with
        | nil => rw [hr] at hj; simp at hj
        | cons u us => exact (plain_of_cell (a := a) (hcell 0 u (by rw [hr]; rfl))).1
      refine ⟨⟨a, rfl, hspot⟩, ?_⟩
      rw [← hc]
      congr 1
      simp only [radr, Addr.add]
      split
      · rename_i h0; subst h0; cases a; simp_all
      · simp [hspot]
    · cases hr : N.row ys with
      | nil => rw [show (roE N (some a) ys).dom = rodom (some a) (N.row ys) from rfl, hr] at hb; cases hb
      | cons u us =>
        have hc := hcell 0 u (by rw [hr]; rfl)
        have hp := plain_of_cell hc
        have : b = a.block := by
          have := rodom_sub hb
          simpa [adom] using this
        rw [this]
        have h2 := hp.2
        unfold Addr.add at h2
        split at h2 <;> simpa using h2
/-- An element that is a whole number. -/
theorem el_int {w : World} {base : Nat} {sp : Nat → Bool} {held : Bool} {n : Nat} {e : TypeId} {k : IntKind} {cs : List Value} {x : DataW H × List MemPlace} (he : P.underlying e = some (.int k)) (h : DataW.trod enc P w base sp held n e cs = some x) :
    ∃ y, cs = (encI k).f y ∧ (Lit.int k y).wf = true := by
  obtain ⟨y, rfl, _, hw⟩ := DataW.trod_int he h
  exact ⟨y, rfl, hw⟩
/-- An element that is a struct of whole numbers. -/
theorem el_ints {w : World} {base : Nat} {sp : Nat → Bool} {held : Bool} {n : Nat} {t : TypeId} {fs : Array Field} {k : IntKind} {cs : List Value} {x : DataW H × List MemPlace} (ht : P.underlying t = some (.struct fs)) (hn : P.cellsOf t = fs.size)
    (hfs : (fs.toList.zipIdx.all fun x => x.1.offset == x.2 && (match P.underlying x.1.type with | some (.int k') => k' == k | _ => false) && P.cellsOf x.1.type == 1) = true) (h : DataW.trod enc P w base sp held n t cs = some x) :
    ∃ ys : List Int, cs = ys.map (Value.int k) ∧ ys.length = fs.size ∧ ∀ y ∈ ys, (Lit.int k y).wf = true := by
  obtain ⟨xs, m, rfl, rfl, hl, hxl, hf⟩ := DataW.trod_struct ht h
  rw [hn] at hl
  have one : ∀ i, i < fs.size → ∃ y, cs[i]? = some (.int k y) ∧ (Lit.int k y).wf = true := by
    intro i hi
    have hfi : fs[i]? = some fs[i] := by simp [hi]
    have h1 := hf i _ hfi
    have h2 := List.all_eq_true.1 hfs (fs[i], i) (by
      rw [List.mem_zipIdx_iff_getElem?]
      simp [hi])
    simp only [Bool.and_eq_true, beq_iff_eq] at h2
    obtain ⟨⟨ho, hu⟩, hc⟩ := h2
    have hu' : P.underlying fs[i].type = some (.int k) := by
      split at hu
      · rename_i k' hk'; rw [hk']; simpa using hu
      · cases hu
    rw [ho, hc] at h1
    have hci : i < cs.length := by omega
    have hx : xs[i]? = some xs[i] := List.getElem?_eq_getElem (by omega)
    rw [hx] at h1
    obtain ⟨y, hy, hw⟩ := el_int hu' h1
    refine ⟨y, ?_, hw⟩
    have : (List.take 1 (cs.drop i))[0]? = some (Value.int k y) := by rw [hy]; rfl
    simpa using this
  have hex : ∀ q, q ≤ fs.size → ∃ ys : List Int, ys.length = q ∧ cs.take q = ys.map (Value.int k) ∧ ∀ y ∈ ys, (Lit.int k y).wf = true := by
    intro q
    induction q with
    | zero => intro _; exact ⟨[], rfl, by simp, by simp⟩
    | succ q ih =>
      intro hq
      obtain ⟨ys, h1, h2, h3⟩ := ih (by omega)
      obtain ⟨y, h4, h5⟩ := one q (by omega)
      refine ⟨ys ++ [y], by simp [h1], by rw [List.take_add_one, h2, h4]; simp, fun z hz => ?_⟩
      rcases List.mem_append.1 hz with hz | hz
      · exact h3 z hz
      · simp at hz; subst hz; exact h5
  obtain ⟨ys, h1, h2, h3⟩ := hex fs.size (Nat.le_refl _)
  exact ⟨ys, by rw [← h2, List.take_of_length_le (by omega)], h1, h3⟩
/-- The arguments of a function that left old blocks alone read as they did. -/
theorem trodAll_below (hl : laidOutB P = true) {W' : World} (hb : Below W.heap.size W W') : ∀ {ts : List TypeId} {vs : List Value} {ds : List (DataW H)} {ps : List MemPlace}, (ts.all fun t => P.readableRec t && decide (t < P.types.size)) = true →
    DataW.TrodAll enc P W 0 (fun _ => true) true ts vs ds ps → (∀ x ∈ ps, x.block < W.heap.size) → DataW.TrodAll enc P W' 0 (fun b => decide (b < W.heap.size)) true ts vs ds ps
  | [], [], [], _, _, h, _ => h
  | t :: ts, v :: vs, d :: ds, _, hr, ⟨p, q, h1, h2, e⟩, hlt => by
    simp only [List.all_cons, Bool.and_eq_true, decide_eq_true_eq] at hr
    subst e
    exact ⟨p, q, Below.trod hl hr.1.1 hr.1.2 h1 hb (fun x hx => hlt x (List.mem_append_left _ hx)), trodAll_below hl hb hr.2 h2 (fun x hx => hlt x (List.mem_append_right _ hx)), rfl⟩
  | [], [], _ :: _, _, _, h, _ => h.elim
  | [], _ :: _, _, _, _, h, _ => h.elim
  | _ :: _, [], _, _, _, h, _ => h.elim
  | _ :: _, _ :: _, [], _, _, h, _ => h.elim
/-- What a law owes: it answers true, and its arguments read as they did. -/
theorem law_calls {s : ChangeSpec} {fn : Func} {f : FuncId} {args : Array Value} {ds gs : List (DataW H)} {before : List MemPlace} {R : List Ch} {tb : TypeId} (hv : s.vars = []) (hl : laidOutB P = true)
    (hrd : (fn.params.toList.all fun t => P.readableRec t && decide (t < P.types.size)) = true) (hrt : fn.resultTypes = #[tb]) (hb : P.underlying tb = some .bool)
    (hW : DataW.Whole enc P fn.params.toList s.vars false W args.toList ds gs before) (hfn : s.fn H ds = { results := [.lit (.bool true)], args := ds })
    (hR : ∀ c ∈ R, c.ok W ∧ ∀ b ∈ c.dom, b < W.heap.size) (tri : Tri P f args R [] (fun v L' => v = .bool true ∧ L' = [])) :
    Calls P f args W fun e W' => ∃ v, e = .returned v ∧ s.post enc P fn false true false false W args v W' := by
  have hW' := hW
  obtain ⟨p, q, hA, hV, rfl, hfz, hnd⟩ := hW
  have hV' := hV
  rw [hv] at hV'
  obtain ⟨rfl, rfl⟩ := trodVars_none hV'
  have h := tri W (fun c hc => ⟨(hR c hc).1, fun b hb => ⟨(hR c hc).2 b hb, by simp [doms]⟩⟩) (fun c hc => by cases hc) (fun b hb => by simp [doms] at hb) (by simp [doms])
  refine ((callsIn_wide (n := 0)).1 h).mono fun e W' ⟨v, L', he, ⟨hv1, _⟩, ho⟩ => ?_
  subst hv1
  have hbel : Below W.heap.size W W' := Tch.below (by have := ho.tch; simpa [doms] using this)
  refine ⟨_, he, ds, [], p ++ [], [], p, [], hW', ?_, ?_, ?_, hbel.frame _, fun h => by cases h⟩
  · rw [List.append_nil, hfn, hrt]
    exact trodAll_mk1 (shut_bool hb true)
  · rw [List.append_nil, hfn]
    exact trodAll_below hl hbel hrd hA (fun x hx => by simpa using hW'.lt x (by simp [hx]))
  · rw [List.append_nil, hfn, hv]
    rfl
end
end Go.Proofs.Ytcmlghemanjaaaa.Sl
