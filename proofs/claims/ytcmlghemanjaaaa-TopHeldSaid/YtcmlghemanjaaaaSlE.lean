/- Steps of a walk: slice literals, append, slicing, calls, returns. Nothing about one program. No conditions. -/
import Derived.Test.YtcmlghemanjaaaaSlD
set_option linter.unusedVariables false
set_option linter.unusedSimpArgs false
set_option linter.unusedSectionVars false
namespace Go.Proofs.Ytcmlghemanjaaaa.Sl
open Go Go.RowKit

section
variable {X : Cx} {E : Env} {L K : List Ch} {ops : Array Oper} {rest : List Oper} {Q : Post} {d : Nat} {ty t e : TypeId} {pos : String} {after : Array Edge} {x y : Operand} {v : Value} {vs : List Value} {A B : Option Addr} {α : Type} {N : Enc α} {ys zs : List α} {z : α} {n c m : Nat}
/-- append(s, l...): s a slice of one's own, l one that is read. -/
theorem HO.append {zv : Value} {bytes : Nat} (ht : X.P.underlying t = some (.slice e)) (he : TyZ X.P e zv N.k bytes) (hzc : zv.cells.size = N.k) (hx : ev E x = some (.slice A ys.length c)) (hy : ev E y = some (.slice B zs.length m))
    (hr : Rem L (rowE N e A c ys) K) (hz : Has X L B (N.row zs)) (hb : (ys.length + zs.length) * bytes ≤ 140737488355328) (hb0 : 0 < bytes) (hn : d < X.n)
    (h : ∀ A' c', HO X ((d, .slice A' (ys ++ zs).length c') :: E) (rowE N e A' c' (ys ++ zs) :: K) ops rest Q) :
    HO X E L ops (⟨some d, .call { callee := .builtin .append, args := #[x, y], argTypes := #[t, t] }, ty, pos, after, none⟩ :: rest) Q :=
  HO.gen (ι := Option Addr × Nat) (fun i => .slice i.1 (ys ++ zs).length i.2) (fun i => rowE N e i.1 i.2 (ys ++ zs) :: K) rfl rfl hn (fun c => by simp) (fun a w s => by
    have hown : OwnRow w e N.k A c ys.length (N.row ys) := s.chunk hr
    have hlen : ys.length + zs.length ≤ 140737488355328 := Nat.le_trans (Nat.le_mul_of_pos_right _ hb0) hb
    cases hi : X.P.info? e with
    | none => unfold TyZ at he; rw [hi] at he; cases he
    | some i =>
      unfold TyZ at he
      rw [hi] at he
      simp at he
      obtain ⟨hz0, hz1, hz2⟩ := he
      have hl : (N.row zs).length = zs.length * i.size := by rw [hz1]; exact N.row_length zs
      have one : ∀ u ∈ N.row zs, u.oneCell' = true := fun u hu => by
        obtain ⟨z, _, hz⟩ := List.mem_flatMap.1 hu
        exact (List.all_eq_true.1 (N.one z)) u hz
      have hrd := hz _ s.kn.ok s.kn.ro
      have hrow : N.row ys ++ N.row zs = N.row (ys ++ zs) := (N.row_append ys zs).symm
      have hal : ys.length + zs.length = (ys ++ zs).length := by simp
      have hcells : ∀ ad, B = some ad → ∀ j u, (N.row zs)[j]? = some u → w.cell? (ad.add j) = some u := fun ad hB j u hj => by
        obtain ⟨⟨a', ha, hs⟩, hc⟩ := hrd j u hj
        subst hB
        injection ha with ha
        subst ha
        cases ad with | mk b o sp =>
        cases hs
        rw [Addr.add_lit]
        exact hc
      have hznil : B = none → zs = [] := fun hB => by
        cases hzs : zs with
        | nil => rfl
        | cons z zs' =>
          have hp := N.pos
          obtain ⟨u, hu⟩ : ∃ u, (N.row zs)[0]? = some u := ⟨_, List.getElem?_eq_getElem (by rw [N.row_length, hzs, List.length_cons, Nat.add_mul]; omega)⟩
          obtain ⟨⟨a', ha, _⟩, _⟩ := hrd 0 u hu
          rw [hB] at ha
          cases ha
      -- what a new block leaves
      have grown : ∀ old, old < ys.length + zs.length → OwnRow (w.drew.alloc (.cells ((N.row ys).toArray ++ (N.row zs).toArray ++ Builtin.zeroCells zv.cells (grownCap w (ys.length + zs.length) old e - (ys.length + zs.length))) e)) e N.k (some ⟨w.heap.size, 0, none⟩) (grownCap w (ys.length + zs.length) old e) (ys ++ zs).length (N.row (ys ++ zs)) := by
        intro old ho
        have hge := grownCap_ge w (ys.length + zs.length) old e
        have hcm : grownCap w (ys.length + zs.length) old e ≤ maxLen := grownCap_le_maxLen w (ys.length + zs.length) old e (by simp only [maxLen]; omega)
        refine ⟨N.row_length _, .inr ⟨w.heap.size, _, rfl, heap_alloc_new w.drew _, by omega, hcm, ?_, ?_⟩⟩
        · simp only [Array.size_append, List.size_toArray, size_zeroCells, hzc, N.row_length, ← Nat.add_mul]
          exact Nat.mul_le_mul_right _ (by omega)
        · simp only [Array.toList_append, List.append_assoc]
          rw [← List.append_assoc, hrow, ← N.row_length]
          exact List.take_left
      have hdn : w.drew.heap = w.heap := rfl
      have newdom : ∀ o, ∀ b ∈ adom (some ⟨w.heap.size, 0, none⟩), b < (w.drew.alloc o).heap.size ∧ (b ∈ adom A ∨ w.heap.size ≤ b) := by
        intro o b hb
        simp [adom] at hb
        subst hb
        exact ⟨by simp, .inr (Nat.le_refl _)⟩
      have newtch : ∀ o, Tch (adom A) w (w.drew.alloc o) := fun o => ⟨rfl, rfl, rfl, by simp, fun b hb _ => heap_alloc_old w.drew o b hb⟩
      have fin : ∀ A' c' w', (Builtin.append_ #[t, t] ty #[.slice A ys.length c, .slice B zs.length m]).run X.P w = .ok (.slice A' (ys.length + zs.length) c') w' → OwnRow w' e N.k A' c' (ys ++ zs).length (N.row (ys ++ zs)) → Tch (adom A) w w' →
          (∀ b ∈ adom A', b < w'.heap.size ∧ (b ∈ adom A ∨ w.heap.size ≤ b)) →
          ∃ (i : Option Addr × Nat) (w' : World), (execOp a.eval ⟨some d, .call { callee := .builtin .append, args := #[x, y], argTypes := #[t, t] }, ty, pos, after, none⟩).run X.P w = .ok (.value (.slice i.1 (ys ++ zs).length i.2)) w' ∧ Own X.w0 X.M (rowE N e i.1 i.2 (ys ++ zs) :: K) w' := by
        intro A' c' w' hrun hown' ht hd
        refine ⟨(A', c'), w', ?_, s.ow.step hr ht hown' hd (by cases A' <;> simp [rowCh, adom])⟩
        simp only [execOp, resolve, invoke, builtin, Sem.run_bind, Sem.run_pure, Result.andThen_ok, List.map_toArray, List.map_cons, List.map_nil, s.eval hx, s.eval hy, hrun, hal]
      rcases hown.2 with ⟨rfl, rfl, hn0⟩ | ⟨g, cur, rfl, hg, hnc, hcm, hcs, htake⟩
      · -- nil
        have hys : ys = [] := List.eq_nil_of_length_eq_zero hn0
        subst hys
        cases B with
        | none =>
          have := hznil rfl
          subst this
          refine fin none 0 w ?_ (by simpa [Enc.row] using OwnRow.nil w e N.k) (Tch.refl _ _) (fun b hb => by simp [adom] at hb)
          simp [Builtin.append_, run_underlying ht, sizeOf, typeInfo, hi, Builtin.lenOf, Builtin.firstCells]
        | some ad =>
          by_cases hm : zs.length = 0
          · have : zs = [] := List.eq_nil_of_length_eq_zero hm
            subst this
            refine fin none 0 w ?_ (by simpa [Enc.row] using OwnRow.nil w e N.k) (Tch.refl _ _) (fun b hb => by simp [adom] at hb)
            simp [Builtin.append_, run_underlying ht, sizeOf, typeInfo, hi, Builtin.lenOf, Builtin.firstCells, loadCells, loadCellsFrom]
          · have hrun := run_append_nil (P := X.P) w t ty e i zv ht hi hz0 ad zs.length m (N.row zs) hl (hcells ad rfl) (by omega) (by omega) (by rw [hz2]; simp only [List.length_nil, Nat.zero_add] at hb; omega)
            have hg0 := grown 0 (by simp; omega)
            simp only [List.length_nil, Nat.zero_add] at hg0 fin
            refine fin _ _ _ hrun (by simpa [Enc.row] using hg0) (newtch _) (newdom _)
      · have hxl : (N.row ys).length = ys.length * N.k := N.row_length ys
        have holds : ∀ j u, (N.row ys)[j]? = some u → w.cell? ((⟨g, 0, none⟩ : Addr).add j) = some u := fun j u hj => by
          obtain ⟨g', he', hc⟩ := OwnRow.cells hown j u hj
          injection he' with he'
          injection he' with he'
          subst he'
          rw [Addr.add_lit, Nat.zero_add]
          exact hc
        cases B with
        | none =>
          have := hznil rfl
          subst this
          refine fin (some ⟨g, 0, none⟩) c w ?_ (by simpa using hown) (Tch.refl _ _) (fun b hb => ⟨s.dom hr b hb, .inl hb⟩)
          simp [Builtin.append_, run_underlying ht, sizeOf, typeInfo, hi, Builtin.lenOf, Builtin.firstCells, hnc, storeCells]
        | some ad =>
          by_cases hroom : ys.length + zs.length ≤ c
          · have hfit : ys.length * i.size + (N.row zs).length ≤ cur.size := by
              rw [hl, hz1, ← Nat.add_mul]
              exact Nat.le_trans (Nat.mul_le_mul_right _ hroom) hcs
            have hrun := run_append_room (P := X.P) w t ty e i ht hi g ys.length c cur hg ad zs.length m (N.row zs) hl (hcells ad rfl) one hroom hfit
            refine fin (some ⟨g, 0, none⟩) _ _ hrun ⟨N.row_length _, .inr ⟨g, _, rfl, setRow_heap w g cur _ e _ hg, by omega, hcm, ?_, ?_⟩⟩ ⟨rfl, rfl, rfl, by simp, fun k' _ hk' => setRow_other w g k' _ (fun e => hk' (by simp [adom, e]))⟩ (fun b hb => ⟨by have := s.dom hr b hb; simpa using this, .inl hb⟩)
            · simp only [List.size_toArray, List.length_append, List.length_take, List.length_drop, Array.length_toList]
              omega
            · rw [hz1, htake, hrow, ← N.row_length]
              exact List.take_left
          · have hrun := run_append_grow (P := X.P) w t ty e i zv ht hi hz0 ⟨g, 0, none⟩ ys.length c (N.row ys) (by rw [hz1]; exact hxl) holds ad zs.length m (N.row zs) hl (hcells ad rfl) (by omega) (by omega) (by rw [hz2]; exact growslice_fits (by omega) hb)
            exact fin _ _ _ hrun (grown c (by omega)) (newtch _) (newdom _)) (fun i => h i.1 i.2)
/-- append(nil, l...) -/
theorem HO.appendNil {zv : Value} {bytes : Nat} (N : Enc α) (zs : List α) (ht : X.P.underlying t = some (.slice e)) (he : TyZ X.P e zv N.k bytes) (hzc : zv.cells.size = N.k) (hx : ev E x = some (.slice none 0 0)) (hy : ev E y = some (.slice B zs.length m))
    (hz : Has X L B (N.row zs)) (hb : zs.length * bytes ≤ 140737488355328) (hb0 : 0 < bytes) (hn : d < X.n)
    (h : ∀ A' c', HO X ((d, .slice A' zs.length c') :: E) (rowE N e A' c' zs :: L) ops rest Q) :
    HO X E L ops (⟨some d, .call { callee := .builtin .append, args := #[x, y], argTypes := #[t, t] }, ty, pos, after, none⟩ :: rest) Q := by
  intro a w s
  have s' : X.st E (rowE N e none 0 ([] : List α) :: L) a w := ⟨s.ro, s.df, s.sz, s.ag, s.ow.addFree _ rfl (OwnRow.nil w e N.k)⟩
  refine HO.append (X := X) (L := rowE N e none 0 ([] : List α) :: L) (K := L) (N := N) (ys := []) (zs := zs) ht he hzc hx hy .here ?_ (by simpa using hb) hb0 hn (fun A' c' => h A' c') a w s'
  intro w' ok ro
  exact hz w' (fun c hc => ok c (List.mem_cons_of_mem _ hc)) ro
end

/-! ### A slice written out -/
inductive PArgs (E : Env) : List (Nat × Operand) → List (Nat × Value) → Prop
  | nil : PArgs E [] []
  | cons {i : Nat} {o : Operand} {v : Value} {os : List (Nat × Operand)} {vs : List (Nat × Value)} (h : ev E o = some v) (r : PArgs E os vs) : PArgs E ((i, o) :: os) ((i, v) :: vs)
theorem PArgs.eval {X : Cx} {E : Env} {L : List Ch} {a : Act} {w : World} (s : Kn X E L a w) {os : List (Nat × Operand)} {vs : List (Nat × Value)} (h : PArgs E os vs) : os.map (fun x => (x.1, a.eval x.2)) = vs := by
  induction h with
  | nil => rfl
  | cons h _ ih => rw [List.map_cons, s.eval h, ih]
theorem fold_set (off : Nat) : ∀ (vs : List Value) (i : Nat) (cs : Array Value), off + i + vs.length ≤ cs.size →
    ((vs.zipIdx i).foldl (fun cs (x : Value × Nat) => cs.setIfInBounds (off + x.2) x.1) cs).toList = cs.toList.take (off + i) ++ vs ++ cs.toList.drop (off + i + vs.length) := by
  intro vs
  induction vs with
  | nil => intro i cs h; simp
  | cons v vs ih =>
    intro i cs h
    simp only [List.length_cons] at h
    simp only [List.zipIdx_cons, List.foldl_cons]
    rw [ih (i + 1) _ (by simp; omega)]
    simp only [Array.toList_setIfInBounds, List.length_cons]
    have hlt : off + i < cs.toList.length := by simp; omega
    have e1 : (cs.toList.set (off + i) v).take (off + (i + 1)) = cs.toList.take (off + i) ++ [v] := by
      rw [show off + (i + 1) = (off + i) + 1 by omega, List.take_succ_eq_append_getElem (by simpa using hlt), List.take_set, List.set_eq_of_length_le (by simp; omega)]
      simp
    have e2 : (cs.toList.set (off + i) v).drop (off + (i + 1) + vs.length) = cs.toList.drop (off + i + (vs.length + 1)) := by
      rw [List.drop_set_of_lt (by omega)]
      congr 1
      omega
    rw [e1, e2]
    simp
inductive FillOk {α : Type} (N : Enc α) : Nat → List α → List (Nat × Value) → Prop
  | nil {i : Nat} : FillOk N i [] []
  | cons {i : Nat} {y : α} {v : Value} {ys : List α} {pv : List (Nat × Value)} (h : v.cells = (N.f y).toArray) (r : FillOk N (i + 1) ys pv) : FillOk N i (y :: ys) ((i, v) :: pv)
theorem FillOk.fill {α : Type} {N : Enc α} {i : Nat} {ys : List α} {pv : List (Nat × Value)} (h : FillOk N i ys pv) : ∀ cs : Array Value, cs.size = (i + ys.length) * N.k →
    Instr.fill (fun i => some (i * N.k, N.k)) cs pv = some (cs.toList.take (i * N.k) ++ N.row ys).toArray := by
  induction h with
  | @nil i =>
    intro cs hs
    have : cs.toList.take (i * N.k) = cs.toList := List.take_of_length_le (by simp at hs; simp [hs])
    simp [Instr.fill, Enc.row, this]
  | @cons i y v ys pv h r ih =>
    intro cs hs
    have hk : (N.f y).length = N.k := N.len y
    have hle : i * N.k + N.k ≤ cs.size := by
      rw [hs]
      have := Nat.mul_le_mul_right N.k (show i + 1 ≤ i + (y :: ys).length by simp)
      rw [Nat.add_mul] at this
      omega
    have hsz : v.cells.size = N.k := by rw [h]; simpa using hk
    have hno : ¬ (v.cells.size ≠ N.k || i * N.k + v.cells.size > cs.size) = true := by
      simp [hsz]; omega
    have hf := fold_set (i * N.k) (N.f y) 0 cs (by rw [hk]; omega)
    simp only [Nat.add_zero] at hf
    have hfold : v.cells.zipIdx.foldl (fun cs (x : Value × Nat) => cs.setIfInBounds (i * N.k + x.2) x.1) cs = (cs.toList.take (i * N.k) ++ N.f y ++ cs.toList.drop (i * N.k + (N.f y).length)).toArray := by
      apply Array.ext'
      rw [h, ← Array.foldl_toList, Array.toList_zipIdx]
      simpa using hf
    simp only [Instr.fill, hno, if_false, Bool.false_eq_true]
    have hfold' : v.cells.zipIdx.foldl (fun cs (c, j) => cs.setIfInBounds (i * N.k + j) c) cs = (cs.toList.take (i * N.k) ++ N.f y ++ cs.toList.drop (i * N.k + (N.f y).length)).toArray := hfold
    rw [hfold', ih _ ?_]
    · have hl : (cs.toList.take (i * N.k) ++ N.f y).length = (i + 1) * N.k := by
        rw [List.length_append, hk, List.length_take, Nat.add_mul]
        simp
        omega
      have he : N.row (y :: ys) = N.f y ++ N.row ys := rfl
      rw [he]
      simp only [List.toList_toArray]
      rw [List.take_append_of_le_length (by rw [hl]; exact Nat.le_refl _), List.take_of_length_le (by rw [hl]; exact Nat.le_refl _)]
      simp
    · simp only [List.size_toArray, List.length_append, List.length_take, List.length_drop, hk, Array.length_toList]
      have : (i + 1 + ys.length) * N.k = (i + (y :: ys).length) * N.k := by congr 1; simp; omega
      omega
def zcells (z : Value) (n : Nat) : Array Value := (Array.range n).map (z.cells[· % z.cells.size]!)
section
variable {X : Cx} {E : Env} {L K : List Ch} {ops : Array Oper} {rest : List Oper} {Q : Post} {d : Nat} {ty t e : TypeId} {pos : String} {after : Array Edge} {α : Type}
/-- []T{..}: a block of its own; the values ys are told. -/
theorem HO.buildRow {z : Value} {bytes : Nat} {parts : List (Nat × Operand)} {pv : List (Nat × Value)} (N : Enc α) (ys : List α) (ht : X.P.underlying t = some (.slice e)) (hz : TyZ X.P e z N.k bytes) (hp : PArgs E parts pv)
    (hfo : FillOk N 0 ys pv) (hle : ys.length * N.k ≤ 16777216) (hm : ys.length ≤ maxLen) (hn : d < X.n)
    (h : ∀ b, HO X ((d, .slice (some ⟨b, 0, none⟩) ys.length ys.length) :: E) (rowE N e (some ⟨b, 0, none⟩) ys.length ys :: L) ops rest Q) :
    HO X E L ops (⟨some d, .buildSlice t ys.length parts.toArray, ty, pos, after, none⟩ :: rest) Q :=
  HO.gen (fun b => .slice (some ⟨b, 0, none⟩) ys.length ys.length) (fun b => rowE N e (some ⟨b, 0, none⟩) ys.length ys :: L) rfl rfl hn (fun c => by simp)
    (fun a w s => by
      have hf : Instr.fill (fun i => some (i * N.k, N.k)) (zcells z (ys.length * N.k)) pv = some (N.row ys).toArray := by
        have := hfo.fill (zcells z (ys.length * N.k)) (by simp [zcells])
        simpa using this
      have hsz : (X.P.info? e).map (·.size) = some N.k := by
        unfold TyZ at hz
        cases hi : X.P.info? e with
        | none => rw [hi] at hz; cases hz
        | some i => rw [hi] at hz; simp at hz; simp [hz.2.1]
      refine ⟨w.heap.size, w.alloc (.cells (N.row ys).toArray e), ?_, s.ow.new _ _ rfl ?_⟩
      · have hpa := hp.eval s.kn
        simp only [execOp, Instr.buildSlice, Sem.run_bind, run_underlying ht, Result.andThen_ok, run_sizeOf' hsz, List.map_toArray, hpa]
        by_cases h0 : ys.length * N.k = 0
        · have hf0 := hf
          rw [h0] at hf0
          have he0 : ∀ g : Nat → Value, (Array.range 0).map g = #[] := fun g => Array.eq_empty_of_size_eq_zero (by simp)
          simp only [zcells, he0] at hf0
          simp [h0, Sem.run_bind, Sem.run_pure, he0, hf0, newRow]
        · have hng : ¬ 2 ^ 24 < ys.length * N.k := by omega
          have hf1 := hf
          simp only [zcells] at hf1
          simp [h0, hng, Sem.run_bind, Sem.run_pure, run_zero hz, hf1, newRow]
      · refine ⟨N.row_length ys, .inr ⟨w.heap.size, _, rfl, heap_alloc_new w _, Nat.le_refl _, hm, by simp [N.row_length], ?_⟩⟩
        rw [← N.row_length]
        simp) h
end

/-! ### Calls -/
def Callable (P : Program) (f : FuncId) : Prop := (P.funcs[f]?).map (fun fn => (fn.name == "runtime.NumGoroutine", fn.body.isNone)) = some (false, false)
theorem run_call {P : Program} {f : FuncId} (h : Callable P f) (args : Array Value) (w : World) : (callFunc f args).run P w = .ok (.enter f args) w := by
  unfold Callable at h
  cases hf : P.funcs[f]? with
  | none => rw [hf] at h; cases h
  | some fn =>
    rw [hf] at h
    simp only [Option.map_some, Option.some.injEq, Prod.mk.injEq] at h
    have h1 : ¬ fn.name = "runtime.NumGoroutine" := by simpa using h.1
    have h2 : ¬ fn.body = none := by intro e; rw [e] at h; simp at h
    simp [callFunc, Sem.run_bind, hf, h1, h2, Sem.run_pure]
inductive Args (E : Env) : List Operand → List Value → Prop
  | nil : Args E [] []
  | cons {o : Operand} {v : Value} {os : List Operand} {vs : List Value} (h : ev E o = some v) (r : Args E os vs) : Args E (o :: os) (v :: vs)
theorem Args.eval {X : Cx} {E : Env} {L : List Ch} {a : Act} {w : World} (s : X.st E L a w) {os : List Operand} {vs : List Value} (h : Args E os vs) : os.map a.eval = vs := by
  induction h with
  | nil => rfl
  | cons h _ ih => rw [List.map_cons, s.eval h, ih]
/-- What a callee may read: pieces that are read here, or owned and not handed over. -/
inductive Reads (R K : List Ch) : List Ch → Prop
  | nil : Reads R K []
  | ro {c : Ch} {l : List Ch} (h : c ∈ R) (r : Reads R K l) : Reads R K (c :: l)
  | own {c : Ch} {l : List Ch} (h : c ∈ K) (r : Reads R K l) : Reads R K (c :: l)
  | row {e : TypeId} {size n c : Nat} {A : Option Addr} {xs : List Value} {l : List Ch} (h : rowCh e size A c n xs ∈ K) (r : Reads R K l) : Reads R K (roCh A xs :: l)
  | none {l : List Ch} (r : Reads R K l) : Reads R K (roCh none [] :: l)
theorem call_own {X : Cx} {E : Env} {L K l R : List Ch} {a : Act} {w : World} (s : X.st E L a w) (hr : Rems L l K) (hR : Reads X.R K R) :
    (∀ c ∈ R, c.ok w ∧ ∀ b ∈ c.dom, b < w.heap.size ∧ b ∉ doms l) ∧ (∀ c ∈ l, c.ok w) ∧ (∀ b ∈ doms l, b < w.heap.size) ∧ (doms l).Nodup := by
  have hp := s.ow.perm hr.perm
  have hd := hp.drop
  have hnd := hp.nd
  rw [doms_append] at hnd
  have hK : ∀ c ∈ K, c.ok w ∧ ∀ b ∈ c.dom, b < w.heap.size ∧ b ∉ doms l := fun c hc =>
    ⟨hp.ok c (List.mem_append_right _ hc), fun b hb => ⟨hp.lt b (by rw [doms_append]; exact List.mem_append_right _ (mem_doms hc hb)), fun hbl => (List.nodup_append.1 hnd).2.2 b hbl b (mem_doms hc hb) rfl⟩⟩
  refine ⟨?_, hd.ok, hd.lt, hd.nd⟩
  intro c hc
  induction hR with
  | nil => cases hc
  | @ro c' l' h r ih =>
    rcases List.mem_cons.1 hc with rfl | hc
    · have := s.ro c h
      refine ⟨s.ro.ok s.ow.tch h, fun b hb => ⟨Nat.lt_of_lt_of_le (this.2 b hb).1 s.ow.tch.size, fun hbl => ?_⟩⟩
      rcases hd.own b hbl with h1 | h1
      · have := (this.2 b hb).1; omega
      · exact (this.2 b hb).2 h1
    · exact ih hc
  | @own c' l' h r ih =>
    rcases List.mem_cons.1 hc with rfl | hc
    · exact hK c h
    · exact ih hc
  | @row e size n c' A xs l' h r ih =>
    rcases List.mem_cons.1 hc with rfl | hc
    · exact ⟨Rd.row (hK _ h).1, fun b hb => (hK _ h).2 b (rodom_sub hb)⟩
    · exact ih hc
  | @none l' r ih =>
    rcases List.mem_cons.1 hc with rfl | hc
    · exact ⟨fun j v hj => by simp at hj, fun b hb => by cases hb⟩
    · exact ih hc
section
variable {X : Cx} {E : Env} {L K l R : List Ch} {ops : Array Oper} {rest : List Oper} {Q : Post} {d : Nat} {ty t e : TypeId} {pos : String} {after : Array Edge} {v : Value}
theorem HO.callG {dst : Option Nat} {f : FuncId} {xs : List Operand} {at_ : Array TypeId} {vs : List Value} {post : Value → List Ch → Prop} (hc : Callable X.P f) (hx : Args E xs vs) (hF : Tri X.P f vs.toArray R l post) (hr : Rems L l K) (hR : Reads X.R K R) (hn : ∀ d, dst = some d → d < X.n)
    (h : ∀ v L', post v L' → HO X (match dst with | some d => (d, v) :: E | none => E) (L' ++ K) ops rest Q) :
    HO X E L ops (⟨dst, .call { callee := .value (.func f), args := xs.toArray, argTypes := at_ }, ty, pos, after, none⟩ :: rest) Q := by
  intro a w s
  refine wpListIn_plain rfl fun K' hK => ?_
  obtain ⟨h1, h2, h3, h4⟩ := call_own s hr hR
  have hcall := hF w h1 h2 h3 h4
  refine ⟨fun _ _ => trivial, ?_⟩
  rw [Oper.semAt_eq _ _ _ (fun c => by simp)]
  have hrun : (execOp a.eval ⟨dst, .call { callee := .value (.func f), args := xs.toArray, argTypes := at_ }, ty, pos, after, none⟩).run X.P w = .ok (.enter f vs.toArray) w := by
    have he : a.eval (.func f) = .func (.func f) #[] #[] := rfl
    simp only [execOp, resolve, Sem.run_bind, he, Deferred.ofValue, Sem.run_pure, Result.andThen_ok, invoke, Array.append_empty, Array.empty_append, List.map_toArray, hx.eval s]
    exact run_call hc _ _
  rw [hrun]
  refine ⟨fun h => by simp at h, ?_⟩
  have hcall' : CallsIn (FR X.r) 0 X.P f vs.toArray w _ := hcall
  refine hcall'.mono ?_
  rintro e w' ⟨v, L', rfl, hv, ho⟩
  refine hK _ _ (h v L' hv _ _ ?_)
  cases dst with
  | none => exact ⟨s.ro, s.df, s.sz, s.ag, s.ow.call hr ho⟩
  | some d => exact put_st s d v (hn d rfl) (s.ow.call hr ho)
theorem HO.call {f : FuncId} {xs : List Operand} {at_ : Array TypeId} {vs : List Value} {post : Value → List Ch → Prop} (hc : Callable X.P f) (hx : Args E xs vs) (hF : Tri X.P f vs.toArray R l post) (hr : Rems L l K) (hR : Reads X.R K R) (hn : d < X.n)
    (h : ∀ v L', post v L' → HO X ((d, v) :: E) (L' ++ K) ops rest Q) :
    HO X E L ops (⟨some d, .call { callee := .value (.func f), args := xs.toArray, argTypes := at_ }, ty, pos, after, none⟩ :: rest) Q :=
  HO.callG hc hx hF hr hR (fun d' e => by injection e with e; rw [← e]; exact hn) h
end

/-! ### Returns -/
section
variable {X : Cx} {E : Env} {L K L' : List Ch} {fn : Func} {post : Value → List Ch → Prop} {t u v : Nat} {x y z : Value} {e : Exit}
theorem leave_nil {F : Fence} {n : Nat} {P : Program} {fn : Func} {tmps : Array Value} {R : Ending → World → Prop} {w : World} {v : Value} (hr : (results fn tmps).run P w = .ok v w) (hR : R (.returned v) w) : LeavesInM F n P fn tmps R [] .returning w := by
  exact ⟨v, hr, hR⟩
theorem HQ.end_ {w0 : World} {M : List Nat} {P : Program} (hX : X.D = []) (hw : X.w0 = w0) (hM : X.M = M) (hP : X.P = P) (he : e = .ret ∨ e = .normal) (vv : Value) (hres : ∀ a w, X.st E L a w → (results fn a.tmps).run X.P w = .ok vv w) (hk : ∃ L' K, Rems L L' K ∧ post vv L') : HQ X E L e (Ends w0 M P fn post) := by
  intro a w s
  obtain ⟨L', K, hk, hp⟩ := hk
  subst hw hM hP
  have key : LeavesInM (FR none) 0 X.P fn a.tmps (fun e w' => ∃ v L', e = .returned v ∧ post v L' ∧ Own X.w0 X.M L' w') a.defers .returning w := by
    rw [s.df, hX]
    exact leave_nil (hres a w s) ⟨vv, L', rfl, hp, s.ow.rems hk⟩
  rcases he with rfl | rfl <;> exact key
theorem res1 {a : Act} {w : World} (hf : fn.results = #[.tmp t]) (s : X.st E L a w) (hx : look E t = some x) : (results fn a.tmps).run X.P w = .ok x w := by
  have h1 : a.tmps[t]?.getD undef = x := by simpa using s.ag t x hx
  simp [results, hf, Sem.run_bind, Sem.run_pure, h1]
theorem res2 {a : Act} {w : World} (hf : fn.results = #[.tmp t, .tmp u]) (s : X.st E L a w) (hx : look E t = some x) (hy : look E u = some y) : (results fn a.tmps).run X.P w = .ok (.tuple #[x, y]) w := by
  have h1 : a.tmps[t]?.getD undef = x := by simpa using s.ag t x hx
  have h2 : a.tmps[u]?.getD undef = y := by simpa using s.ag u y hy
  simp [results, hf, Sem.run_bind, Sem.run_pure, h1, h2]
theorem res3 {a : Act} {w : World} (hf : fn.results = #[.tmp t, .tmp u, .tmp v]) (s : X.st E L a w) (hx : look E t = some x) (hy : look E u = some y) (hz : look E v = some z) : (results fn a.tmps).run X.P w = .ok (.tuple #[x, y, z]) w := by
  have h1 : a.tmps[t]?.getD undef = x := by simpa using s.ag t x hx
  have h2 : a.tmps[u]?.getD undef = y := by simpa using s.ag u y hy
  have h3 : a.tmps[v]?.getD undef = z := by simpa using s.ag v z hz
  simp [results, hf, Sem.run_bind, Sem.run_pure, h1, h2, h3]
end

/-! ### Ways out -/
section
variable {X : Cx} {E : Env} {L : List Ch} {Q : Post} {K : Act → World → Prop} {id id' : Nat}
theorem HQ.then_ret (h : HQ X E L .ret Q) : HQ X E L .ret (Exit.then K Q) := h
theorem HQ.then_exit (h : HQ X E L (.exit id) Q) : HQ X E L (.exit id) (Exit.then K Q) := h
theorem HQ.block_normal (h : HQ X E L .normal Q) : HQ X E L .normal (Exit.inBlock id Q) := h
theorem HQ.block_ret (h : HQ X E L .ret Q) : HQ X E L .ret (Exit.inBlock id Q) := h
theorem HQ.exit_hit (h : HQ X E L .normal Q) : HQ X E L (.exit id) (Exit.inBlock id Q) := fun a w s => by
  show (if id = id then Q .normal a w else Q (.exit id) a w)
  rw [if_pos rfl]
  exact h a w s
theorem HQ.exit_miss (hne : id' ≠ id) (h : HQ X E L (.exit id') Q) : HQ X E L (.exit id') (Exit.inBlock id Q) := fun a w s => by
  show (if id' = id then Q .normal a w else Q (.exit id') a w)
  rw [if_neg hne]
  exact h a w s
end
theorem ltn {d n : Nat} (h : Nat.ble (d + 1) n = true) : d < n := Nat.le_of_ble_eq_true h
section
variable {X : Cx} {E : Env} {L : List Ch} {ops : Array Oper} {rest : List Oper} {Q : Post} {t : Nat} {b : Bool}
theorem HO.setT (hb : look E t = some (.bool b)) (h1 : b = true) (h : HO X ((t, .bool true) :: E) L ops rest Q) : HO X E L ops rest Q := HO.part hb (fun _ => h) (fun h2 => by rw [h1] at h2; cases h2)
theorem HO.setF (hb : look E t = some (.bool b)) (h1 : b = false) (h : HO X ((t, .bool false) :: E) L ops rest Q) : HO X E L ops rest Q := HO.part hb (fun h2 => by rw [h1] at h2; cases h2) (fun _ => h)
end
theorem getD_args (vs : List Value) (k i : Nat) (v : Value) (h : vs[i]? = some v) : (vs.toArray ++ Array.replicate k undef).getD i undef = v := by
  have hi : i < vs.length := (List.getElem?_eq_some_iff.1 h).1
  have hv : vs[i] = v := (List.getElem?_eq_some_iff.1 h).2
  simp [Array.getD, hi, hv, Array.getElem_append, show i < vs.length + k by omega]
def argEnv : Nat → List Value → Env
  | _, [] => []
  | i, v :: r => (i, v) :: argEnv (i + 1) r
theorem look_argEnv (vs : List Value) : ∀ (i t : Nat) (v : Value), look (argEnv i vs) t = some v → i ≤ t ∧ vs[t - i]? = some v := by
  induction vs with
  | nil => intro i t v h; cases h
  | cons u vs ih =>
    intro i t v h
    simp only [argEnv, look] at h
    cases hq : Nat.beq i t with
    | true =>
      rw [hq] at h
      have := Nat.eq_of_beq_eq_true hq
      subst this
      simp at h
      subst h
      simp
    | false =>
      rw [hq] at h
      have := ih (i + 1) t v h
      refine ⟨by omega, ?_⟩
      rw [show t - i = (t - (i + 1)) + 1 by omega]
      simpa using this.2
theorem Tri.of' {P : Program} {f : FuncId} {fn : Func} {c : Code} {R L : List Ch} {post : Value → List Ch → Prop} (n : Nat) (vs : List Value) (E : Env) (hf : P.funcs[f]? = some fn) (hn : fn.ntmps = n) (hb : fn.body = some c)
    (hE : E = argEnv 0 vs) (hl : Nat.ble vs.length n = true) (h : ∀ w0, H ⟨none, P, w0, doms L, R, n, []⟩ E L c (Ends w0 (doms L) P fn post)) : Tri P f vs.toArray R L post := by
  subst hn
  refine Tri.of hf hb (E := E) ?_ (by have := Nat.le_of_ble_eq_true hl; simpa using this) h
  intro T hT t v ht
  subst hT
  rw [hE] at ht
  exact getD_args vs _ t v (by simpa using (look_argEnv vs 0 t v ht).2)
end Go.Proofs.Ytcmlghemanjaaaa.Sl
