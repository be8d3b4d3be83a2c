/- Values numbered: what registers hold, keys, what was reckoned; as plain functions. No conditions. -/
import Derived.Test.YtcmlghemanjaaaaPgA
import Derived.Test.YtcmlghemanjaaaaSlN
set_option linter.unusedVariables false
namespace Go.Proofs.Ytcmlghemanjaaaa.Pg
open Go Sl
abbrev Key := Int × Int × Int × Int
def at_ (l : List Int) (i : Int) : Int := l.getD i.toNat 0
theorem at_some {l : List Int} {i : Int} (h0 : 0 ≤ i) (h : i < l.length) : l[i.toNat]? = some (at_ l i) := by
  unfold at_
  rw [List.getD_eq_getElem?_getD, List.getElem?_eq_getElem (by omega)]; rfl
/-- The first register that holds v; -1: none. -/
def holderF : List Int → Int → Int → Int
  | [], _, _ => -1
  | x :: r, v, k => if x = v then k else holderF r v (k + 1)
def holder (held : List Int) (v : Int) : Int := holderF held v 0
theorem holderF_drop {held : List Int} {v : Int} : ∀ (k : Nat), k ≤ held.length → (∀ j, j < k → held[j]? ≠ some v) → holder held v = holderF (held.drop k) v k := by
  intro k
  induction k with
  | zero => intro _ _; rfl
  | succ k ih =>
    intro hk h
    rw [ih (by omega) (fun j hj => h j (by omega))]
    have hd : held.drop k = held[k] :: held.drop (k + 1) := by rw [List.getElem_cons_drop]
    rw [hd]
    have hne : held[k] ≠ v := fun e => h k (by omega) (by rw [List.getElem?_eq_getElem (by omega), e])
    show (if held[k] = v then (k : Int) else holderF (held.drop (k + 1)) v (k + 1)) = _
    rw [if_neg hne]
    rfl
theorem holder_hit {held : List Int} {v : Int} {k : Nat} (h : held[k]? = some v) (hno : ∀ j, j < k → held[j]? ≠ some v) : holder held v = k := by
  have hk : k < held.length := (List.getElem?_eq_some_iff.1 h).1
  rw [holderF_drop k (by omega) hno]
  have hd : held.drop k = held[k] :: held.drop (k + 1) := by rw [List.getElem_cons_drop]
  have he : held[k] = v := (List.getElem?_eq_some_iff.1 h).2
  rw [hd]
  show (if held[k] = v then (k : Int) else _) = _
  rw [if_pos he]
theorem holder_none {held : List Int} {v : Int} (hno : ∀ j, j < held.length → held[j]? ≠ some v) : holder held v = -1 := by
  rw [holderF_drop held.length (Nat.le_refl _) hno, List.drop_of_length_le (Nat.le_refl _)]
  rfl
def keyed (held : List Int) (i : Ins) : Key :=
  if i.op = 3 ∨ i.op = 4 then
    (if i.op = 3 ∧ at_ held i.b < at_ held i.a then (i.op, at_ held i.b, at_ held i.a, i.c) else (i.op, at_ held i.a, at_ held i.b, i.c))
  else (i.op, at_ held i.a, -1, i.c)
structure Tab where
  held : List Int
  known : List (Key × Int)
  first : List (Key × Int)
  next : Int
/-- What an instruction reckons, who reckoned it first, and what is known then. -/
def reckon (t : Tab) (n : Int) (i : Ins) : Int × Int × Tab :=
  if i.op = 1 then (at_ t.held i.a, -1, t)
  else match mget t.known (keyed t.held i) with
    | some v => (v, (mget t.first (keyed t.held i)).getD 0, t)
    | none => (t.next, n, ⟨t.held, mput t.known (keyed t.held i) t.next, mput t.first (keyed t.held i) n, t.next + 1⟩)
def asked (held : List Int) (i : Ins) : Ins := ⟨i.op, i.to, holder held (at_ held i.a), if i.op = 3 ∨ i.op = 4 then holder held (at_ held i.b) else i.b, i.c⟩
def newHeld (ins : Int) (regs : Nat) : List Int := (List.range regs).map fun (r : Nat) => if ins < (r : Int) then ins else (r : Int)
def newTab (p : Prg) : Tab := ⟨newHeld p.ins p.regs.toNat, [], [], p.ins + 1⟩
theorem asks_more {i : Ins} (h1 : 1 ≤ i.op) (h8 : i.op ≤ 8) : (1 < ((asks i).length : Int)) ↔ (i.op = 3 ∨ i.op = 4) := by
  unfold asks
  by_cases h : i.op = 3 ∨ i.op = 4
  · simp [h]
  · rw [if_neg h, if_pos ⟨h1, h8⟩]; simp [h]
end Go.Proofs.Ytcmlghemanjaaaa.Pg
