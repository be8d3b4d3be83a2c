/- Truth values compared; room of an owned slice; a slice's piece that is only read, looked at as a piece. Nothing about one program. No conditions. -/
import Derived.Test.YtcmlghemanjaaaaSlG
set_option linter.unusedVariables false
set_option linter.unusedSimpArgs false
set_option linter.unusedSectionVars false
namespace Go.Proofs.Ytcmlghemanjaaaa.Sl
open Go Go.RowKit
section
variable {X : Cx} {E : Env} {L : List Ch} {d : Nat} {ty : TypeId} {pos : String} {after : Array Edge} {g : Option (Nat × Bool)} {x y : Operand} {xt yt : TypeId} {p q : Bool}
theorem run_eqGuard_bool {P : Program} {w : World} (op : BinOp) (t : TypeId) (x y : Operand) (a b : Bool) : (eqGuard op t x y (.bool a) (.bool b)).run P w = .ok () w := by
  unfold eqGuard
  split <;> rfl
theorem V.eqlB (ht : X.P.underlying xt = some .bool) (hx : ev E x = some (.bool p)) (hy : ev E y = some (.bool q)) :
    VO X E L ⟨some d, .binOp .eql xt x y yt, ty, pos, after, g⟩ (.bool (p == q)) :=
  ⟨fun c => by simp, fun a w s => by
    simp [execOp, s.eval hx, s.eval hy, Sem.run_bind, run_eqGuard_bool, binOp, run_equal_bool w xt p q ht, Sem.run_pure]⟩
theorem V.neqB (ht : X.P.underlying xt = some .bool) (hx : ev E x = some (.bool p)) (hy : ev E y = some (.bool q)) :
    VO X E L ⟨some d, .binOp .neq xt x y yt, ty, pos, after, g⟩ (.bool (!(p == q))) :=
  ⟨fun c => by simp, fun a w s => by
    simp [execOp, s.eval hx, s.eval hy, Sem.run_bind, run_eqGuard_bool, binOp, run_equal_bool w xt p q ht, Sem.run_pure]⟩
end
section
variable {X : Cx} {E : Env} {L K : List Ch} {ops : Array Oper} {rest : List Oper} {Q : Post} {α : Type} {N : Enc α} {ys : List α} {c : Nat} {A : Option Addr} {e : TypeId}
theorem OwnRow.le {w : World} {k n : Nat} {xs : List Value} (h : OwnRow w e k A c n xs) : n ≤ c := by
  rcases h.2 with ⟨_, _, hn⟩ | ⟨g, cur, _, _, hnc, _⟩
  · omega
  · exact hnc
/-- An owned slice has room for what it holds. -/
theorem HO.room (hr : Rem L (rowE N e A c ys) K) (h : ys.length ≤ c → HO X E L ops rest Q) : HO X E L ops rest Q := fun a w s => by
  have hok : OwnRow w e N.k A c ys.length (N.row ys) := s.chunk hr
  exact h hok.le a w s
end
end Go.Proofs.Ytcmlghemanjaaaa.Sl
