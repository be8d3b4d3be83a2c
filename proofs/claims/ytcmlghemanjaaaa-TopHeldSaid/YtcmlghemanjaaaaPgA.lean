/- Programs as plain data: instructions, which may be, what they ask. No conditions. -/
import Derived.Test.YtcmlghemanjaaaaSlE
set_option linter.unusedVariables false
namespace Go.Proofs.Ytcmlghemanjaaaa.Pg
open Go Sl
structure Ins where
  op : Int
  to : Int
  a : Int
  b : Int
  c : Int
  deriving DecidableEq
abbrev vIn (i : Ins) : Value := .agg #[.int .i64 i.op, .int .i64 i.to, .int .i64 i.a, .int .i64 i.b, .int .i64 i.c]
def encIn : Enc Ins := ⟨5, fun i => [.int .i64 i.op, .int .i64 i.to, .int .i64 i.a, .int .i64 i.b, .int .i64 i.c], fun _ => rfl, by decide, fun _ => rfl⟩
structure Prg where
  ins : Int
  regs : Int
  code : List Ins
  outs : List Int
  deriving DecidableEq
/-- A program's value: its lists lie over A and B. -/
abbrev vPg (p : Prg) (A : Option Addr) (n : Nat) (B : Option Addr) (m : Nat) : Value := .agg #[.int .i64 p.ins, .int .i64 p.regs, .slice A p.code.length n, .slice B p.outs.length m]
def two (op : Int) : Bool := op = 3 || op = 4
def constant (i : Ins) : Bool := if i.op = 5 ∨ i.op = 6 then !decide (i.c = 0) && decide (-512 ≤ i.c) && decide (i.c ≤ 512) else if i.op = 7 ∨ i.op = 8 then decide (1 ≤ i.c) && decide (i.c ≤ 64) else i.c = 0
def asks (i : Ins) : List Int := if i.op = 3 ∨ i.op = 4 then [i.a, i.b] else if 1 ≤ i.op ∧ i.op ≤ 8 then [i.a] else []
theorem asks_len (i : Ins) : (asks i).length ≤ 2 := by unfold asks; repeat (first | split | simp)
/-- An instruction may be, among so many registers. -/
structure May (i : Ins) (regs : Int) : Prop where
  op1 : 1 ≤ i.op
  op8 : i.op ≤ 8
  to0 : 0 ≤ i.to
  to1 : i.to < regs
  b : two i.op = false → i.b = 0
  c : constant i = true
  asks : ∀ r ∈ asks i, 0 ≤ r ∧ r < regs
/-- A program may be. -/
structure Right (p : Prg) : Prop where
  ins1 : 1 ≤ p.ins
  ins2 : p.ins ≤ p.regs
  regs : p.regs ≤ 128
  code : p.code.length ≤ 16384
  outs1 : 1 ≤ p.outs.length
  outs2 : p.outs.length ≤ 128
  outs : ∀ r ∈ p.outs, 0 ≤ r ∧ r < p.regs
  may : ∀ i ∈ p.code, May i p.regs
theorem right_one (i : Ins) (h : May i 128) : Right ⟨1, 128, [i], [0]⟩ :=
  ⟨by simp, by simp, by simp, by simp, by simp, by simp, by intro r hr; simp at hr; subst hr; simp, by intro j hj; simp at hj; subst hj; exact h⟩
end Go.Proofs.Ytcmlghemanjaaaa.Pg
