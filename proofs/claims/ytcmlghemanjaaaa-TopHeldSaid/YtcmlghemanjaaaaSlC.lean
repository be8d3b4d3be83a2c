/- Steps of a walk: blocks laid, loads, stores, slices that are owned or read, append, calls, returns. Nothing about one program. No conditions. -/
import Derived.Test.YtcmlghemanjaaaaSlB
set_option linter.unusedVariables false
set_option linter.unusedSimpArgs false
set_option linter.unusedSectionVars false
namespace Go.Proofs.Ytcmlghemanjaaaa.Sl
open Go Go.RowKit

/-! ### 1. A block whose cells are known one by one -/
def cellsOk (b : Nat) (t : TypeId) (cs : List Value) (w : World) : Prop := w.heap[b]? = some (.cells cs.toArray t (0, 0))
def cellsCh (b : Nat) (t : TypeId) (cs : List Value) : Ch :=
  ⟨[b], cellsOk b t cs, fun w w' h k => (h b (by simp)).trans k⟩
theorem alloc_tch (w : World) (o : Obj) : Tch [] w (w.alloc o) := ⟨rfl, rfl, rfl, by simp, fun b hb _ => heap_alloc_old w o b hb⟩
theorem St.chunk {X : Cx} {E : Env} {L K : List Ch} {a : Act} {w : World} (s : X.st E L a w) {c : Ch} (r : Rem L c K) : c.ok w := s.ow.ok c (r.perm.mem_iff.2 (List.mem_cons_self ..))
theorem St.dom {X : Cx} {E : Env} {L K : List Ch} {a : Act} {w : World} (s : X.st E L a w) {c : Ch} (r : Rem L c K) : ∀ b ∈ c.dom, b < w.heap.size :=
  fun b hb => s.ow.lt b (mem_doms (r.perm.mem_iff.2 (List.mem_cons_self ..)) hb)

def isAggD : TypeDesc → Bool
  | .struct _ | .array _ _ => true
  | _ => false
/-- The type's values are one cell each. -/
def Scal (P : Program) (t : TypeId) : Prop := (P.underlying t).map isAggD = some false ∧ (P.info? t).map (·.size) = some 1
/-- The type's values are k cells each, one behind the other. -/
def Aggr (P : Program) (t : TypeId) (k : Nat) : Prop := (P.underlying t).map isAggD = some true ∧ (P.info? t).map (·.size) = some k
def TyZ (P : Program) (t : TypeId) (z : Value) (k bytes : Nat) : Prop := (P.info? t).map (fun i => (i.zero, i.size, i.bytes)) = some (some z, k, bytes)
theorem run_isAgg {P : Program} {t : TypeId} {b : Bool} (h : (P.underlying t).map isAggD = some b) (w : World) : (isAgg t).run P w = .ok b w := by
  cases hu : P.underlying t with
  | none => rw [hu] at h; cases h
  | some d =>
    rw [hu] at h
    have hb : isAggD d = b := by simpa using h
    subst hb
    simp only [isAgg, Sem.run_bind, run_underlying hu, Result.andThen_ok]
    cases d <;> rfl
theorem run_sizeOf' {P : Program} {t : TypeId} {k : Nat} (h : (P.info? t).map (·.size) = some k) (w : World) : (sizeOf t).run P w = .ok k w := by
  cases hu : P.info? t with
  | none => rw [hu] at h; cases h
  | some i =>
    rw [hu] at h
    have : i.size = k := by simpa using h
    simp [sizeOf, typeInfo, hu, this]
theorem run_zero {P : Program} {t : TypeId} {z : Value} {k bytes : Nat} (h : TyZ P t z k bytes) (w : World) : (zeroValue t).run P w = .ok z w := by
  unfold TyZ at h
  cases hu : P.info? t with
  | none => rw [hu] at h; cases h
  | some i =>
    rw [hu] at h
    simp at h
    simp [zeroValue, typeInfo, hu, h.1]
theorem run_loadVar1 {P : Program} {t : TypeId} (ht : Scal P t) {w : World} {a : Addr} {v : Value} (h : w.cell? a = some v) : (loadVar t a).run P w = .ok v w := by
  simp [loadVar, Sem.run_bind, run_isAgg ht.1, h]
theorem run_loadVarK {P : Program} {t : TypeId} {k : Nat} (ht : Aggr P t k) {w : World} {a : Addr} {vs : List Value} (hl : vs.length = k) (h : ∀ j v, vs[j]? = some v → w.cell? (a.add j) = some v) :
    (loadVar t a).run P w = .ok (.agg vs.toArray) w := by
  have := run_loadCells_list (P := P) w a vs h
  rw [hl] at this
  simp [loadVar, Sem.run_bind, run_isAgg ht.1, run_sizeOf' ht.2, this]

inductive Cut : List Value → Nat → Nat → List Value → Prop
  | nil {r : List Value} : Cut r 0 0 []
  | cons {x : Value} {r vs : List Value} {k : Nat} (h : Cut r 0 k vs) : Cut (x :: r) 0 (k + 1) (x :: vs)
  | skip {x : Value} {r vs : List Value} {n k : Nat} (h : Cut r n k vs) : Cut (x :: r) (n + 1) k vs
theorem Cut.at {r vs : List Value} {n k : Nat} (h : Cut r n k vs) : vs.length = k ∧ ∀ j v, vs[j]? = some v → r[n + j]? = some v := by
  induction h with
  | nil => exact ⟨rfl, fun j v h => by simp at h⟩
  | cons h ih =>
    refine ⟨by simp [ih.1], fun j v hv => ?_⟩
    cases j with
    | zero => simpa using hv
    | succ j => have := ih.2 j v (by simpa using hv); rw [Nat.zero_add] at this ⊢; simpa using this
  | @skip x r vs n k h ih =>
    refine ⟨ih.1, fun j v hv => ?_⟩
    have := ih.2 j v hv
    rw [show n + 1 + j = (n + j) + 1 by omega]
    simpa using this
inductive Put : List Value → Nat → List Value → List Value → Prop
  | nil {r : List Value} : Put r 0 [] r
  | cons {x v : Value} {r vs r' : List Value} (h : Put r 0 vs r') : Put (x :: r) 0 (v :: vs) (v :: r')
  | skip {x : Value} {r vs r' : List Value} {n : Nat} (h : Put r n vs r') : Put (x :: r) (n + 1) vs (x :: r')
theorem Put.at {r vs r' : List Value} {n : Nat} (h : Put r n vs r') : n + vs.length ≤ r.length ∧ r.take n ++ vs ++ r.drop (n + vs.length) = r' := by
  induction h with
  | nil => simp
  | cons h ih =>
    have h2 := ih.2
    simp only [Nat.zero_add, List.take_zero, List.nil_append, List.length_cons, List.drop_succ_cons, List.cons_append] at h2 ⊢
    exact ⟨by have := ih.1; omega, by rw [h2]⟩
  | @skip x r vs r' n h ih =>
    refine ⟨by have := ih.1; simp; omega, ?_⟩
    rw [show n + 1 + vs.length = (n + vs.length) + 1 by omega]
    simp only [List.take_succ_cons, List.drop_succ_cons, List.cons_append]
    rw [ih.2]

section
variable {X : Cx} {E : Env} {L K : List Ch} {ops : Array Oper} {rest : List Oper} {Q : Post} {d : Nat} {ty t t' : TypeId} {pos : String} {after : Array Edge} {x y : Operand} {v : Value} {cs vs : List Value} {b off k : Nat} {g : Option (Nat × Bool)}
theorem own_alloc {X : Cx} {E : Env} {L : List Ch} {a : Act} {w : World} (s : X.st E L a w) (t : TypeId) (cs : List Value) : Own X.w0 X.M (cellsCh w.heap.size t cs :: L) (w.alloc (.cells cs.toArray t)) :=
  s.ow.new _ _ rfl (heap_alloc_new w _)
theorem HO.alloc {z : Value} {bytes : Nat} (hz : TyZ X.P t z k bytes) (hc : z.cells = cs.toArray) (hn : d < X.n) (h : ∀ b, HO X ((d, .pointer (some ⟨b, 0, none⟩)) :: E) (cellsCh b t cs :: L) ops rest Q) :
    HO X E L ops (⟨some d, .alloc t, ty, pos, after, none⟩ :: rest) Q :=
  HO.gen (fun b => .pointer (some ⟨b, 0, none⟩)) (fun b => cellsCh b t cs :: L) rfl rfl hn (fun c => by simp)
    (fun a w s => ⟨w.heap.size, w.alloc (.cells cs.toArray t), by simp [execOp, Instr.alloc, Sem.run_bind, run_zero hz, newVar, newRow, hc, Sem.run_pure], own_alloc s t cs⟩) h
theorem HO.box (hx : ev E x = some v) (hc : v.cells = cs.toArray) (hn : d < X.n) (h : ∀ b, HO X ((d, .pointer (some ⟨b, 0, none⟩)) :: E) (cellsCh b t cs :: L) ops rest Q) :
    HO X E L ops (⟨some d, .box t x, ty, pos, after, none⟩ :: rest) Q :=
  HO.gen (fun b => .pointer (some ⟨b, 0, none⟩)) (fun b => cellsCh b t cs :: L) rfl rfl hn (fun c => by simp)
    (fun a w s => ⟨w.heap.size, w.alloc (.cells cs.toArray t), by simp [execOp, Instr.box, s.eval hx, Sem.run_bind, newVar, newRow, hc, Sem.run_pure], own_alloc s t cs⟩) h
theorem cell_of {w : World} (h : cellsOk b t' cs w) (j : Nat) : w.cell? ⟨b, j, none⟩ = cs[j]? := by rw [cell_of_row w b j _ _ _ h]; simp
/-- Cell off of block b holds v. -/
inductive LoadAt (L : List Ch) (b off : Nat) (v : Value) : Prop
  | mk {t' : TypeId} {cs : List Value} {K : List Ch} (hr : Rem L (cellsCh b t' cs) K) (hv : cs[off]? = some v) : LoadAt L b off v
inductive LoadA (L : List Ch) (b off k : Nat) (vs : List Value) : Prop
  | mk {t' : TypeId} {cs : List Value} {K : List Ch} (hr : Rem L (cellsCh b t' cs) K) (hv : Cut cs off k vs) : LoadA L b off k vs
/-- From cell off on of block b these values are laid. -/
inductive StoreAt (L : List Ch) (b off : Nat) (vs : List Value) : List Ch → Prop
  | mk {t' : TypeId} {cs cs' : List Value} {K : List Ch} (hr : Rem L (cellsCh b t' cs) K) (hp : Put cs off vs cs') : StoreAt L b off vs (cellsCh b t' cs' :: K)
theorem V.load (ht : Scal X.P t) (hx : ev E x = some (.pointer (some ⟨b, off, none⟩))) (hl : LoadAt L b off v) :
    VO X E L ⟨some d, .load t x, ty, pos, after, g⟩ (v) :=
  ⟨fun c => by simp, fun a w s => by
    obtain ⟨hr, hv⟩ := hl
    have hc : w.cell? ⟨b, off, none⟩ = some v := (cell_of (s.chunk hr) off).trans hv
    simp [execOp, s.eval hx, Instr.loadAt, Instr.sureAddr, Sem.run_bind, Sem.run_pure, run_loadVar1 ht hc]⟩
theorem V.loadA (ht : Aggr X.P t k) (hx : ev E x = some (.pointer (some ⟨b, off, none⟩))) (hl : LoadA L b off k vs) :
    VO X E L ⟨some d, .load t x, ty, pos, after, g⟩ (.agg vs.toArray) :=
  ⟨fun c => by simp, fun a w s => by
    obtain ⟨hr, hv⟩ := hl
    have hc : ∀ j v, vs[j]? = some v → w.cell? ((⟨b, off, none⟩ : Addr).add j) = some v := fun j v hj => by
      rw [Addr.add_lit, cell_of (s.chunk hr)]; exact hv.at.2 j v hj
    simp [execOp, s.eval hx, Instr.loadAt, Instr.sureAddr, Sem.run_bind, Sem.run_pure, run_loadVarK ht hv.at.1 hc]⟩
theorem HO.store {L2 : List Ch} (hk : (X.P.info? t).map (·.size) = some k) (hx : ev E x = some (.pointer (some ⟨b, off, none⟩))) (hy : ev E y = some v)
    (hc : v.cells = vs.toArray) (hl : vs.length = k) (h1 : vs.all (·.oneCell') = true) (hst : StoreAt L b off vs L2) (h : HO X E L2 ops rest Q) :
    HO X E L ops (⟨none, .store t x y, ty, pos, after, none⟩ :: rest) Q :=
  HO.eff rfl rfl (fun c => by simp) (fun a w s => by
    obtain @⟨t', cs, cs', K, hr, hp⟩ := hst
    have hg : w.heap[b]? = some (.cells cs.toArray t' (0, 0)) := s.chunk hr
    have hst := run_storeCells_at X.P b off t' vs 0 cs.toArray w hg (by have := hp.at.1; simp; omega) (fun v hv => (List.all_eq_true.1 h1) v hv)
    simp only [Nat.add_zero] at hst
    rw [hp.at.2] at hst
    refine ⟨w.setRow b cs'.toArray, ?_, s.ow.step hr ⟨rfl, rfl, rfl, by simp, fun k' _ hk' => setRow_other w b k' _ (fun e => hk' (by simp [cellsCh, e]))⟩ (setRow_heap w b _ _ t' (0, 0) hg) ?_ (by simp [cellsCh])⟩
    · have hsz : v.cells.size = k := by rw [hc]; simpa using hl
      simp [execOp, s.eval hx, s.eval hy, Instr.storeAt, Instr.sureAddr, Sem.run_bind, Sem.run_pure, storeVar, run_sizeOf' hk, hsz, hl, hc, hst]
    · intro b' hb'
      simp [cellsCh] at hb'
      subst hb'
      have := s.dom hr b' (by simp [cellsCh])
      exact ⟨by simpa using this, .inl (by simp [cellsCh])⟩) h
theorem V.fieldAddr {o i : Nat} {fs : Array Field} (hf : (X.P.underlying t).bind (fun | .struct fs => (fs[i]?).bind fun f => (X.P.info? f.type).map fun j => (f.offset, j.size == 0) | _ => none) = some (o, false))
    (hx : ev E x = some (.pointer (some ⟨b, off, none⟩))) :
    VO X E L ⟨some d, .fieldAddr t x i, ty, pos, after, g⟩ (.pointer (some ⟨b, off + o, none⟩)) := by
  cases hu : X.P.underlying t with
  | none => rw [hu] at hf; cases hf
  | some dsc =>
    rw [hu] at hf
    cases dsc with
    | struct fs =>
      simp only [Option.bind_some] at hf
      cases hfi : fs[i]? with
      | none => rw [hfi] at hf; cases hf
      | some f =>
        rw [hfi] at hf
        simp only [Option.bind_some] at hf
        cases hi : X.P.info? f.type with
        | none => rw [hi] at hf; cases hf
        | some j =>
          rw [hi] at hf
          simp at hf
          refine ⟨fun c => by simp, fun a w s => ?_⟩
          simp [execOp, s.eval hx, Instr.fieldAt, Instr.sureAddr, Sem.run_bind, Sem.run_pure, run_underlying hu, hfi, fieldPlace, sizeOf, typeInfo, hi, hf.1, hf.2, Addr.add_lit]
    | _ => cases hf
end
end Go.Proofs.Ytcmlghemanjaaaa.Sl
