/- Steps of a walk: closures made and called, pointers looked at, the lesser of two, rows made. Nothing about one program. No conditions. -/
import Derived.Test.YtcmlghemanjaaaaSlM
import Derived.DeepKeys4
set_option linter.unusedVariables false
set_option linter.unusedSimpArgs false
set_option linter.unusedSectionVars false
namespace Go.Proofs.Ytcmlghemanjaaaa.Sl
open Go Go.RowKit Go.Maps
section
variable {X : Cx} {E : Env} {L K l R : List Ch} {ops : Array Oper} {rest : List Oper} {Q : Post} {d : Nat} {ty t e : TypeId} {pos : String} {after : Array Edge} {g : Option (Nat × Bool)} {x y : Operand} {v : Value}
theorem V.nilCheck {ad : Addr} (hx : ev E x = some (.pointer (some ad))) : VO X E L ⟨some d, .nilCheck x, ty, pos, after, g⟩ (.pointer (some ad)) :=
  ⟨fun c => by simp, fun a w s => by simp [execOp, s.eval hx, Sem.run_pure]⟩
theorem V.min {k : IntKind} {a b : Int} {at_ : Array TypeId} (hx : ev E x = some (.int k a)) (hy : ev E y = some (.int k b)) :
    VO X E L ⟨some d, .call { callee := .builtin .min, args := #[x, y], argTypes := at_ }, ty, pos, after, g⟩ (.int k (if b < a then b else a)) :=
  ⟨fun c => by simp, fun a' w s => by simp [execOp, resolve, invoke, builtin, s.eval hx, s.eval hy, Builtin.min_, Builtin.min2, Sem.run_bind, Sem.run_pure]⟩
/-- What Args says where an operation only reads. -/
theorem Args.evalK {a : Act} {w : World} (s : Kn X E L a w) {os : List Operand} {vs : List Value} (h : Args E os vs) : os.map a.eval = vs := by
  induction h with
  | nil => rfl
  | cons h _ ih => rw [List.map_cons, s.eval h, ih]
/-- A closure is made. -/
theorem V.makeFunc {f : Fn} {fs cs : List Operand} {fv cv : List Value} (h1 : Args E fs fv) (h2 : Args E cs cv) : VO X E L ⟨some d, .makeFunc f fs.toArray cs.toArray, ty, pos, after, g⟩ (.func f fv.toArray cv.toArray) :=
  ⟨fun c => by simp, fun a w s => by
    simp only [execOp, Instr.makeFunc, Sem.run_bind, Sem.run_pure, List.map_toArray, h1.evalK s, h2.evalK s, Result.andThen_ok]⟩
/-- A function value is called. -/
theorem HO.callV {dst : Option Nat} {f : FuncId} {fo : Operand} {xs : List Operand} {at_ : Array TypeId} {vs fv cv : List Value} {post : Value → List Ch → Prop} (hc : Callable X.P f) (hf : ev E fo = some (.func (.func f) fv.toArray cv.toArray)) (hx : Args E xs vs) (hF : Tri X.P f (fv ++ vs ++ cv).toArray R l post) (hr : Rems L l K) (hR : Reads X.R K R) (hn : ∀ d, dst = some d → d < X.n)
    (h : ∀ v L', post v L' → HO X (match dst with | some d => (d, v) :: E | none => E) (L' ++ K) ops rest Q) :
    HO X E L ops (⟨dst, .call { callee := .value fo, args := xs.toArray, argTypes := at_ }, ty, pos, after, none⟩ :: rest) Q := by
  intro a w s
  refine wpListIn_plain rfl fun K' hK => ?_
  obtain ⟨h1, h2, h3, h4⟩ := call_own s hr hR
  have hcall := hF w h1 h2 h3 h4
  refine ⟨fun _ _ => trivial, ?_⟩
  rw [Oper.semAt_eq _ _ _ (fun c => by simp)]
  have hrun : (execOp a.eval ⟨dst, .call { callee := .value fo, args := xs.toArray, argTypes := at_ }, ty, pos, after, none⟩).run X.P w = .ok (.enter f (fv ++ vs ++ cv).toArray) w := by
    simp only [execOp, resolve, Sem.run_bind, s.eval hf, Deferred.ofValue, Sem.run_pure, Result.andThen_ok, invoke, List.map_toArray, hx.eval s, List.append_toArray]
    exact run_call hc _ _
  rw [hrun]
  refine ⟨fun h => by simp at h, ?_⟩
  have hcall' : CallsIn (FR X.r) 0 X.P f (fv ++ vs ++ cv).toArray w _ := hcall
  refine hcall'.mono ?_
  rintro e w' ⟨v, L', rfl, hv, ho⟩
  refine hK _ _ (h v L' hv _ _ ?_)
  cases dst with
  | none => exact ⟨s.ro, s.df, s.sz, s.ag, s.ow.call hr ho⟩
  | some d => exact put_st s d v (hn d rfl) (s.ow.call hr ho)
end
section
variable {X : Cx} {E : Env} {L : List Ch} {ops : Array Oper} {rest : List Oper} {Q : Post} {d : Nat} {ty t e : TypeId} {pos : String} {after : Array Edge} {x y : Operand} {α : Type}
/-- make([]T, n): so many zero values. -/
theorem HO.makeSlice {z : Value} {bytes : Nat} {k1 k2 : IntKind} {n : Int} (N : Enc α) (z0 : α) (ht : X.P.underlying t = some (.slice e)) (hz : TyZ X.P e z N.k bytes) (hz0 : z.cells = #[z]) (hz1 : N.f z0 = [z]) (hx : ev E x = some (.int k1 n)) (hy : ev E y = some (.int k2 n)) (h0 : 0 ≤ n) (hb : (bytes : Int) * n ≤ 281474976710656) (h63 : n ≤ 4611686018427387904) (hn : d < X.n)
    (h : ∀ b, HO X ((d, .slice (some ⟨b, 0, none⟩) (List.replicate n.toNat z0).length n.toNat) :: E) (rowE N e (some ⟨b, 0, none⟩) n.toNat (List.replicate n.toNat z0) :: L) ops rest Q) : HO X E L ops (⟨some d, .makeSlice t x y, ty, pos, after, none⟩ :: rest) Q := by
  refine HO.gen (fun b => .slice (some ⟨b, 0, none⟩) (List.replicate n.toNat z0).length n.toNat) (fun b => rowE N e (some ⟨b, 0, none⟩) n.toNat (List.replicate n.toNat z0) :: L) rfl rfl hn (fun c => by simp) (fun a w s => ?_) h
  obtain ⟨i, hi, hiz, his, hib⟩ : ∃ i, X.P.info? e = some i ∧ i.zero = some z ∧ i.size = N.k ∧ i.bytes = bytes := by
    unfold TyZ at hz
    cases hq : X.P.info? e with
    | none => rw [hq] at hz; simp at hz
    | some i => rw [hq] at hz; simp at hz; exact ⟨i, rfl, hz.1, hz.2.1, hz.2.2⟩
  have hr := run_make (P := X.P) (w := w) t e i z ht hi hiz k1 k2 n n h0 (Int.le_refl _) (by rw [hib]; exact hb) (by omega)
  refine ⟨w.heap.size, _, by simp [execOp, s.eval hx, s.eval hy, hr, Sem.run_bind, Sem.run_pure]; rfl, s.ow.new _ _ rfl ?_⟩
  have hk1 : N.k = 1 := by have := N.len z0; rw [hz1] at this; simpa using this.symm
  have hrow : N.row (List.replicate n.toNat z0) = List.replicate n.toNat z := by
    generalize n.toNat = q
    induction q with
    | zero => rfl
    | succ q ih => rw [List.replicate_succ, List.replicate_succ, ← ih]; simp [Enc.row, hz1]
  refine ⟨N.row_length _, .inr ⟨_, _, rfl, heap_alloc_new w _, by simp, by unfold maxLen; omega, ?_, ?_⟩⟩
  · rw [size_madeCells, his]; exact Nat.le_refl _
  · rw [his, hz0, hk1, Nat.mul_one, toList_madeCells_one, hrow]; simp
end
section
variable {X : Cx} {E : Env} {L : List Ch} {d : Nat} {ty t t' : TypeId} {pos : String} {after : Array Edge} {g : Option (Nat × Bool)} {x : Operand} {v : Value} {cs vs : List Value} {b off k : Nat}
/-- A cell of a piece that is only read. -/
theorem V.loadR (ht : Scal X.P t) (hx : ev E x = some (.pointer (some ⟨b, off, none⟩))) (hm : cellsCh b t' cs ∈ X.R) (hv : cs[off]? = some v) : VO X E L ⟨some d, .load t x, ty, pos, after, g⟩ v :=
  ⟨fun c => by simp, fun a w s => by
    have h1 := (V.load (X := X) (E := E) (L := [cellsCh b t' cs]) (d := d) (ty := ty) (pos := pos) (after := after) (g := g) ht hx (.mk .here hv)).2 a w
    exact h1 ⟨s.ag, fun c hc => by simp at hc; subst hc; exact s.ro _ hm, s.ro⟩⟩
theorem V.loadAR (ht : Aggr X.P t k) (hx : ev E x = some (.pointer (some ⟨b, off, none⟩))) (hm : cellsCh b t' cs ∈ X.R) (hv : Cut cs off k vs) : VO X E L ⟨some d, .load t x, ty, pos, after, g⟩ (.agg vs.toArray) :=
  ⟨fun c => by simp, fun a w s => by
    have h1 := (V.loadA (X := X) (E := E) (L := [cellsCh b t' cs]) (d := d) (ty := ty) (pos := pos) (after := after) (g := g) ht hx (.mk .here hv)).2 a w
    exact h1 ⟨s.ag, fun c hc => by simp at hc; subst hc; exact s.ro _ hm, s.ro⟩⟩
end
/-- Keys that are structs of four whole numbers. -/
def keyS4 {P : Program} {kt : TypeId} (hK : Keyed P kt) (hr : ∀ a b c d : Int, (-9223372036854775808 ≤ a ∧ a ≤ 9223372036854775807) → (-9223372036854775808 ≤ b ∧ b ≤ 9223372036854775807) → (-9223372036854775808 ≤ c ∧ c ≤ 9223372036854775807) → (-9223372036854775808 ≤ d ∧ d ≤ 9223372036854775807) → ∃ l, keyOf P kt (.agg #[.int .i64 a, .int .i64 b, .int .i64 c, .int .i64 d]) = some l) : Keyer P kt (Int × Int × Int × Int) :=
  ⟨fun k => .agg #[.int .i64 k.1, .int .i64 k.2.1, .int .i64 k.2.2.1, .int .i64 k.2.2.2], fun k => (-9223372036854775808 ≤ k.1 ∧ k.1 ≤ 9223372036854775807) ∧ (-9223372036854775808 ≤ k.2.1 ∧ k.2.1 ≤ 9223372036854775807) ∧ (-9223372036854775808 ≤ k.2.2.1 ∧ k.2.2.1 ≤ 9223372036854775807) ∧ (-9223372036854775808 ≤ k.2.2.2 ∧ k.2.2.2 ≤ 9223372036854775807),
    hK, fun k h => hr _ _ _ _ h.1 h.2.1 h.2.2.1 h.2.2.2, fun x y h => by obtain ⟨a, b, c, d⟩ := x; obtain ⟨a', b', c', d'⟩ := y; simp at h; simp [h]⟩
end Go.Proofs.Ytcmlghemanjaaaa.Sl
