/- Steps of a walk: one rule for each kind of operation that leaves memory as it is, or lays a block, loads, stores. Nothing about one program. No conditions. -/
import Derived.Test.YtcmlghemanjaaaaSlA
set_option linter.unusedVariables false
set_option linter.unusedSimpArgs false
set_option linter.unusedSectionVars false
namespace Go.Proofs.Ytcmlghemanjaaaa.Sl
open Go Go.RowKit

section
variable {X : Cx} {E : Env} {L : List Ch} {ops : Array Oper} {rest : List Oper} {Q : Post} {o : Oper}
theorem put_st {X : Cx} {E : Env} {L L' : List Ch} {a : Act} {w w' : World} (s : X.st E L a w) (d : Nat) (v : Value) (hd : d < X.n) (ho : Own X.w0 X.M L' w') : X.st ((d, v) :: E) L' (a.put (some d) v) w' :=
  ⟨s.ro, s.df, by simpa [Act.put] using s.sz, s.ag.put d v (by rw [s.sz]; exact hd), ho⟩
/-- An operation that gives a value; the value and memory may hang on an unknown i. -/
theorem HO.gen {ι : Type} {d : Nat} (v : ι → Value) (L' : ι → List Ch) (hg : o.guard = none) (hd : o.dst = some d) (hn : d < X.n) (hdef : ∀ c, o.op ≠ .defer c)
    (hv : ∀ a w, X.st E L a w → ∃ i w', (execOp a.eval o).run X.P w = .ok (.value (v i)) w' ∧ Own X.w0 X.M (L' i) w') (h : ∀ i, HO X ((d, v i) :: E) (L' i) ops rest Q) : HO X E L ops (o :: rest) Q := by
  intro a w s
  refine wpListIn_plain hg fun K hK => ?_
  obtain ⟨i, w', hr, ho⟩ := hv a w s
  refine ⟨fun _ _ => trivial, ?_⟩
  rw [Oper.semAt_eq _ _ _ hdef, hr]
  refine hK _ _ (h i _ _ ?_)
  rw [hd]
  exact put_st s d (v i) hn ho
theorem HO.v {d : Nat} {op : Op} {ty : TypeId} {pos : String} {after : Array Edge} {v : Value} (hv : VO X E L ⟨some d, op, ty, pos, after, none⟩ v) (hn : d < X.n) (h : HO X ((d, v) :: E) L ops rest Q) : HO X E L ops (⟨some d, op, ty, pos, after, none⟩ :: rest) Q :=
  HO.gen (ι := Unit) (fun _ => v) (fun _ => L) rfl rfl hn hv.1 (fun a w s => ⟨(), w, hv.2 a w s.kn, s.ow⟩) (fun _ => h)
/-- An operation that gives none, memory turns. -/
theorem HO.eff {L' : List Ch} (hg : o.guard = none) (hd : o.dst = none) (hdef : ∀ c, o.op ≠ .defer c)
    (hv : ∀ a w, X.st E L a w → ∃ w', (execOp a.eval o).run X.P w = .ok .skip w' ∧ Own X.w0 X.M L' w') (h : HO X E L' ops rest Q) : HO X E L ops (o :: rest) Q := by
  intro a w s
  refine wpListIn_plain hg fun K hK => ?_
  obtain ⟨w', hr, ho⟩ := hv a w s
  refine ⟨fun _ _ => trivial, ?_⟩
  rw [Oper.semAt_eq _ _ _ hdef, hr]
  refine hK _ _ (h _ _ ?_)
  rw [hd]
  exact ⟨s.ro, s.df, s.sz, s.ag, ho⟩
end

/-! ### Guards -/
section
variable {X : Cx} {E : Env} {L : List Ch} {ops : Array Oper} {rest : List Oper} {Q : Post} {dst : Option Nat} {op : Op} {ty : TypeId} {pos : String} {after : Array Edge} {j : Nat} {want b : Bool} {oj : Oper} {t : Nat}
theorem yielded_at {a : Act} {w : World} (s : X.st E L a w) (hj : ops[j]? = some oj) (hd : oj.dst = some t) (hb : look E t = some (.bool b)) : yielded ops a.tmps j = some b := by
  have := s.ag t _ hb
  by_cases ht : t < a.tmps.size
  · have h2 : a.tmps[t] = Value.bool b := by simpa [Array.getD, ht] using this
    simp [yielded, hj, hd, this, ht, h2]
  · simp [Array.getD, ht, undef] at this
/-- What a guard lets by is done as if there were none. -/
theorem HO.gdo (hj : ops[j]? = some oj) (hd : oj.dst = some t) (hb : look E t = some (.bool b)) (hw : b = want)
    (h : HO X E L ops (⟨dst, op, ty, pos, after, none⟩ :: rest) Q) : HO X E L ops (⟨dst, op, ty, pos, after, some (j, want)⟩ :: rest) Q := by
  intro a w s
  have hy := yielded_at s hj hd hb
  have := h a w s
  simp only [wpListIn, Region.wanted, hy, hw, beq_self_eq_true, if_true] at this ⊢
  exact this
theorem HO.gskip {d : Nat} (hj : ops[j]? = some oj) (hd : oj.dst = some t) (hb : look E t = some (.bool b)) (hw : b = !want) (hn : d < X.n)
    (h : HO X ((d, undef) :: E) L ops rest Q) : HO X E L ops (⟨some d, op, ty, pos, after, some (j, want)⟩ :: rest) Q := by
  intro a w s
  have hy := yielded_at s hj hd hb
  have hne : (some b == some want) = false := by rw [hw]; cases want <;> rfl
  simp only [wpListIn, Region.wanted, hy, hne]
  refine ⟨fun _ _ => trivial, ?_⟩
  exact h _ _ (put_st s d undef hn s.ow)
/-- A truth value is parted. -/
theorem HO.part {t : Nat} {b : Bool} (hb : look E t = some (.bool b)) (hT : b = true → HO X ((t, .bool true) :: E) L ops rest Q) (hF : b = false → HO X ((t, .bool false) :: E) L ops rest Q) : HO X E L ops rest Q := by
  intro a w s
  have key : ∀ c : Bool, b = c → X.st ((t, .bool c) :: E) L a w := fun c hc => ⟨s.ro, s.df, s.sz, fun s' u hu => by
    simp only [look] at hu
    cases hq : Nat.beq t s' with
    | false => rw [hq] at hu; exact s.ag _ _ hu
    | true =>
      rw [hq] at hu
      have := Nat.eq_of_beq_eq_true hq
      subst this
      simp at hu
      subst hu
      rw [← hc]
      exact s.ag _ _ hb, s.ow⟩
  cases hbb : b with
  | true => exact hT hbb a w (key true hbb)
  | false => exact hF hbb a w (key false hbb)
end

/-! ### Plain values -/
theorem wrap_in {z : Int} (h : -9223372036854775808 ≤ z ∧ z ≤ 9223372036854775807) : IntKind.i64.wrap z = z := by rw [IntKind.wrap_i64]; omega
section
variable {X : Cx} {E : Env} {L : List Ch} {ops : Array Oper} {rest : List Oper} {Q : Post} {d : Nat} {ty : TypeId} {pos : String} {after : Array Edge} {x y c : Operand} {v u : Value} {xt yt : TypeId} {g : Option (Nat × Bool)}
theorem V.move (hx : ev E x = some v) :
    VO X E L ⟨some d, .move x, ty, pos, after, g⟩ (v) :=
  ⟨fun c => by simp, fun a w s => by simp only [execOp, s.eval hx]; rfl⟩
theorem V.assign (hx : ev E x = some v) :
    VO X E L ⟨some d, .assign x, ty, pos, after, g⟩ (v) :=
  ⟨fun c => by simp, fun a w s => by simp only [execOp, s.eval hx]; rfl⟩
theorem V.pickT (hc : ev E c = some (.bool true)) (hx : ev E x = some v) :
    VO X E L ⟨some d, .pick c x y, ty, pos, after, g⟩ (v) :=
  ⟨fun c => by simp, fun a w s => by simp [execOp, s.eval hx, s.eval hc, asBool, Sem.run_bind, Sem.run_pure]⟩
theorem V.pickF (hc : ev E c = some (.bool false)) (hy : ev E y = some v) :
    VO X E L ⟨some d, .pick c x y, ty, pos, after, g⟩ (v) :=
  ⟨fun c => by simp, fun a w s => by simp [execOp, s.eval hy, s.eval hc, asBool, Sem.run_bind, Sem.run_pure]⟩
theorem V.pick {b : Bool} (hc : ev E c = some (.bool b)) (hx : b = true → ev E x = some v) (hy : b = false → ev E y = some v) :
    VO X E L ⟨some d, .pick c x y, ty, pos, after, g⟩ (v) := by
  cases b with
  | true => exact V.pickT hc (hx rfl)
  | false => exact V.pickF hc (hy rfl)

theorem run_eqGuard_int {P : Program} {w : World} (op : BinOp) (t : TypeId) (x y : Operand) (k k' : IntKind) (a b : Int) : (eqGuard op t x y (.int k a) (.int k' b)).run P w = .ok () w := by
  unfold eqGuard
  split <;> rfl
section
variable {a b : Int} {k : IntKind} (hx : ev E x = some (.int k a)) (hy : ev E y = some (.int k b))
include hx hy
theorem V.binInt (op : BinOp) (v : Value) (hop : op ≠ .shl ∧ op ≠ .shr) (hv : ∀ w, (binOp op xt (.int k a) (.int k b)).run X.P w = .ok v w) :
    VO X E L ⟨some d, .binOp op xt x y yt, ty, pos, after, g⟩ (v) :=
  ⟨fun c => by simp, fun a' w s => by simp [execOp, s.eval hx, s.eval hy, Sem.run_bind, Sem.run_pure, run_eqGuard_int, hv]⟩
theorem V.addW :
    VO X E L ⟨some d, .binOp .add xt x y yt, ty, pos, after, g⟩ (.int k (k.wrap (a + b))) :=
  V.binInt hx hy _ _ ⟨by decide, by decide⟩ (fun w => by simp [binOp, Op.intArith, Sem.run_pure])
theorem V.subW :
    VO X E L ⟨some d, .binOp .sub xt x y yt, ty, pos, after, g⟩ (.int k (k.wrap (a - b))) :=
  V.binInt hx hy _ _ ⟨by decide, by decide⟩ (fun w => by simp [binOp, Op.intArith, Sem.run_pure])
theorem V.mulW :
    VO X E L ⟨some d, .binOp .mul xt x y yt, ty, pos, after, g⟩ (.int k (k.wrap (a * b))) :=
  V.binInt hx hy _ _ ⟨by decide, by decide⟩ (fun w => by simp [binOp, Op.intArith, Sem.run_pure])
theorem V.quoW (hb : b ≠ 0) :
    VO X E L ⟨some d, .binOp .quo xt x y yt, ty, pos, after, g⟩ (.int k (k.wrap (a.tdiv b))) :=
  V.binInt hx hy _ _ ⟨by decide, by decide⟩ (fun w => by simp [binOp, Op.intDiv, hb, Sem.run_pure])
theorem V.rem (hb : b ≠ 0) :
    VO X E L ⟨some d, .binOp .rem xt x y yt, ty, pos, after, g⟩ (.int k (a.tmod b)) :=
  V.binInt hx hy _ _ ⟨by decide, by decide⟩ (fun w => by simp [binOp, Op.intDiv, hb, Sem.run_pure])
theorem V.lss :
    VO X E L ⟨some d, .binOp .lss xt x y yt, ty, pos, after, g⟩ (.bool (decide (a < b))) :=
  V.binInt hx hy _ _ ⟨by decide, by decide⟩ (fun w => by simp [binOp, Op.intCmp, Sem.run_pure])
theorem V.leq :
    VO X E L ⟨some d, .binOp .leq xt x y yt, ty, pos, after, g⟩ (.bool (decide (a ≤ b))) :=
  V.binInt hx hy _ _ ⟨by decide, by decide⟩ (fun w => by simp [binOp, Op.intCmp, Sem.run_pure])
theorem V.gtr :
    VO X E L ⟨some d, .binOp .gtr xt x y yt, ty, pos, after, g⟩ (.bool (decide (b < a))) :=
  V.binInt hx hy _ _ ⟨by decide, by decide⟩ (fun w => by simp [binOp, Op.intCmp, Sem.run_pure])
theorem V.geq :
    VO X E L ⟨some d, .binOp .geq xt x y yt, ty, pos, after, g⟩ (.bool (decide (b ≤ a))) :=
  V.binInt hx hy _ _ ⟨by decide, by decide⟩ (fun w => by simp [binOp, Op.intCmp, Sem.run_pure])
theorem V.eqlI :
    VO X E L ⟨some d, .binOp .eql xt x y yt, ty, pos, after, g⟩ (.bool (decide (a = b))) :=
  V.binInt hx hy _ _ ⟨by decide, by decide⟩ (fun w => by simp [binOp, Op.intCmp, Sem.run_pure]; rfl)
theorem V.neqI :
    VO X E L ⟨some d, .binOp .neq xt x y yt, ty, pos, after, g⟩ (.bool (!decide (a = b))) :=
  V.binInt hx hy _ _ ⟨by decide, by decide⟩ (fun w => by simp [binOp, Op.intCmp, Sem.run_pure]; rfl)
end
section
variable {a b : Int} (hx : ev E x = some (.int .i64 a)) (hy : ev E y = some (.int .i64 b))
include hx hy
theorem V.add (hb : -9223372036854775808 ≤ a + b ∧ a + b ≤ 9223372036854775807) :
    VO X E L ⟨some d, .binOp .add xt x y yt, ty, pos, after, g⟩ (.int .i64 (a + b)) :=
  by have h := V.addW (X := X) (E := E) (L := L) (d := d) (ty := ty) (pos := pos) (after := after) (xt := xt) (yt := yt) (g := g) hx hy; rwa [wrap_in hb] at h
theorem V.sub (hb : -9223372036854775808 ≤ a - b ∧ a - b ≤ 9223372036854775807) :
    VO X E L ⟨some d, .binOp .sub xt x y yt, ty, pos, after, g⟩ (.int .i64 (a - b)) :=
  by have h := V.subW (X := X) (E := E) (L := L) (d := d) (ty := ty) (pos := pos) (after := after) (xt := xt) (yt := yt) (g := g) hx hy; rwa [wrap_in hb] at h
theorem V.mul (hb : -9223372036854775808 ≤ a * b ∧ a * b ≤ 9223372036854775807) :
    VO X E L ⟨some d, .binOp .mul xt x y yt, ty, pos, after, g⟩ (.int .i64 (a * b)) :=
  by have h := V.mulW (X := X) (E := E) (L := L) (d := d) (ty := ty) (pos := pos) (after := after) (xt := xt) (yt := yt) (g := g) hx hy; rwa [wrap_in hb] at h
theorem V.quo (h0 : b ≠ 0) (hb : -9223372036854775808 ≤ a.tdiv b ∧ a.tdiv b ≤ 9223372036854775807) :
    VO X E L ⟨some d, .binOp .quo xt x y yt, ty, pos, after, g⟩ (.int .i64 (a.tdiv b)) :=
  by have h := V.quoW (X := X) (E := E) (L := L) (d := d) (ty := ty) (pos := pos) (after := after) (xt := xt) (yt := yt) (g := g) hx hy h0; rwa [wrap_in hb] at h
end
theorem V.not {b : Bool} (hx : ev E x = some (.bool b)) :
    VO X E L ⟨some d, .unOp .not xt x, ty, pos, after, g⟩ (.bool (!b)) :=
  ⟨fun c => by simp, fun a w s => by simp [execOp, s.eval hx, Op.unary, Sem.run_bind, Sem.run_pure]⟩
theorem V.extract {vs : Array Value} {i : Nat} (hx : ev E x = some (.tuple vs)) (hi : vs[i]? = some v) :
    VO X E L ⟨some d, .extract x i, ty, pos, after, g⟩ (v) :=
  ⟨fun c => by simp, fun a w s => by simp [execOp, s.eval hx, Instr.extract, hi, Sem.run_bind, Sem.run_pure]⟩
theorem V.len {A : Option Addr} {n c : Nat} {t e : TypeId} (ht : X.P.underlying t = some (.slice e)) (hx : ev E x = some (.slice A n c)) :
    VO X E L ⟨some d, .call { callee := .builtin .len, args := #[x], argTypes := #[t] }, ty, pos, after, g⟩ (.int .i64 (n : Int)) :=
  ⟨fun c => by simp, fun a w s => by simp [execOp, resolve, invoke, builtin, s.eval hx, Builtin.len_, run_underlying ht, goInt, Sem.run_bind, Sem.run_pure]⟩
end
end Go.Proofs.Ytcmlghemanjaaaa.Sl
