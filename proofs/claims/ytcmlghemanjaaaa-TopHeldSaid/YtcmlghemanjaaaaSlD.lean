/- Steps of a walk: slices that are owned or only read, append, calls, returns. Nothing about one program. No conditions. -/
import Derived.Test.YtcmlghemanjaaaaSlC
set_option linter.unusedVariables false
set_option linter.unusedSimpArgs false
set_option linter.unusedSectionVars false
namespace Go.Proofs.Ytcmlghemanjaaaa.Sl
open Go Go.RowKit

/-! ### 1. Slices -/
/-- Where element cell j of a slice over A lies. -/
def radr (A : Option Addr) (j : Nat) : Addr := match A with | some a => ⟨a.block, a.off + j, none⟩ | none => ⟨0, j, none⟩
/-- The cells of a slice over A. -/
def Rd (w : World) (A : Option Addr) (xs : List Value) : Prop := ∀ j v, xs[j]? = some v → (∃ a, A = some a ∧ a.spot = none) ∧ w.cell? (radr A j) = some v
def adom : Option Addr → List Nat
  | some a => [a.block]
  | none => []
/-- The slice over A of n elements has room for c, at the head of a block of its own, and holds these cells. -/
def OwnRow (w : World) (e : TypeId) (size : Nat) (A : Option Addr) (c n : Nat) (xs : List Value) : Prop :=
  xs.length = n * size ∧ ((A = none ∧ c = 0 ∧ n = 0) ∨ ∃ g cur, A = some ⟨g, 0, none⟩ ∧ w.heap[g]? = some (.cells cur e (0, 0)) ∧ n ≤ c ∧ c ≤ maxLen ∧ c * size ≤ cur.size ∧ cur.toList.take (n * size) = xs)
/-- A slice whose cells may be written, at the head of a block of its own. -/
def rowCh (e : TypeId) (size : Nat) (A : Option Addr) (c n : Nat) (xs : List Value) : Ch :=
  ⟨adom A, fun w => OwnRow w e size A c n xs, fun w w' h k => by
    refine ⟨k.1, ?_⟩
    rcases k.2 with h0 | ⟨g, cur, rfl, hg, r⟩
    · exact .inl h0
    · exact .inr ⟨g, cur, rfl, by rw [h g (by simp [adom])]; exact hg, r⟩⟩
theorem OwnRow.cells {w : World} {e : TypeId} {size c n : Nat} {A : Option Addr} {xs : List Value} (h : OwnRow w e size A c n xs) : ∀ j v, xs[j]? = some v → ∃ g, A = some ⟨g, 0, none⟩ ∧ w.cell? ⟨g, j, none⟩ = some v := by
  intro j v hj
  rcases h.2 with ⟨_, _, hn⟩ | ⟨g, cur, rfl, hg, _, _, _, ht⟩
  · have := h.1
    subst hn
    simp at this
    subst this
    simp at hj
  · refine ⟨g, rfl, ?_⟩
    rw [cell_of_row w g j cur e (0, 0) hg]
    rw [← ht, List.getElem?_take] at hj
    split at hj
    · simpa using hj
    · cases hj
theorem OwnRow.nil (w : World) (e : TypeId) (size : Nat) : OwnRow w e size none 0 0 [] := ⟨by simp, .inl ⟨rfl, rfl, rfl⟩⟩
def rodom (A : Option Addr) : List Value → List Nat
  | [] => []
  | _ :: _ => adom A
theorem rodom_sub {A : Option Addr} {xs : List Value} {b : Nat} (h : b ∈ rodom A xs) : b ∈ adom A := by cases xs with | nil => cases h | cons x xs => exact h
/-- A slice that is only read. -/
def roCh (A : Option Addr) (xs : List Value) : Ch :=
  ⟨rodom A xs, fun w => Rd w A xs, fun w w' h k j v hj => by
    obtain ⟨⟨a, rfl, hs⟩, hc⟩ := k j v hj
    refine ⟨⟨a, rfl, hs⟩, ?_⟩
    rw [← hc]
    cases xs with
    | nil => simp at hj
    | cons x xs => exact World.cell?_of_block (h a.block (by simp [adom, rodom]))⟩
theorem Rd.row {w : World} {e : TypeId} {size c n : Nat} {A : Option Addr} {xs : List Value} (h : (rowCh e size A c n xs).ok w) : Rd w A xs := by
  intro j v hj
  obtain ⟨g, rfl, hc⟩ := OwnRow.cells h j v hj
  refine ⟨⟨_, rfl, rfl⟩, ?_⟩
  show w.cell? ⟨g, 0 + j, none⟩ = some v
  rw [Nat.zero_add]
  exact hc
/-- Where what a slice holds is known from: a piece that is owned, or one that is read. -/
def Has (X : Cx) (L : List Ch) (A : Option Addr) (xs : List Value) : Prop := ∀ w, (∀ c ∈ L, c.ok w) → (∀ c ∈ X.R, c.ok w) → Rd w A xs
theorem Has.own {X : Cx} {L K : List Ch} {e : TypeId} {size c n : Nat} {A : Option Addr} {xs : List Value} (r : Rem L (rowCh e size A c n xs) K) : Has X L A xs := fun w ok _ => Rd.row (ok _ (r.perm.mem_iff.2 (List.mem_cons_self ..)))
theorem Has.ro {X : Cx} {L : List Ch} {A : Option Addr} {xs : List Value} (h : roCh A xs ∈ X.R) : Has X L A xs := fun w _ ro => ro _ h
theorem Has.lit {X : Cx} {L K : List Ch} {b : Nat} {t : TypeId} {cs : List Value} (r : Rem L (cellsCh b t cs) K) : Has X L (some ⟨b, 0, none⟩) cs := fun w ok _ j v hj =>
  ⟨⟨_, rfl, rfl⟩, by show w.cell? ⟨b, 0 + j, none⟩ = _; rw [Nat.zero_add]; exact (cell_of (ok _ (r.perm.mem_iff.2 (List.mem_cons_self ..))) j).trans hj⟩

/-- How values of a Go type lie in cells. -/
structure Enc (α : Type) where
  k : Nat
  f : α → List Value
  len : ∀ x, (f x).length = k
  pos : 0 < k
  one : ∀ x, (f x).all (·.oneCell') = true
def Enc.row {α : Type} (N : Enc α) (ys : List α) : List Value := ys.flatMap N.f
theorem Enc.row_length {α : Type} (N : Enc α) (ys : List α) : (N.row ys).length = ys.length * N.k := by
  induction ys with
  | nil => simp [Enc.row]
  | cons y ys ih => simp [Enc.row, N.len, Nat.add_mul] at ih ⊢; omega
theorem Enc.row_append {α : Type} (N : Enc α) (ys zs : List α) : N.row (ys ++ zs) = N.row ys ++ N.row zs := by simp [Enc.row]
theorem Enc.row_at {α : Type} (N : Enc α) (ys : List α) (i : Nat) (y : α) (h : ys[i]? = some y) (j : Nat) (v : Value) (hv : (N.f y)[j]? = some v) : (N.row ys)[i * N.k + j]? = some v := by
  have hj : j < N.k := by
    have := (List.getElem?_eq_some_iff.1 hv).1
    rwa [N.len] at this
  induction ys generalizing i with
  | nil => simp at h
  | cons z ys ih =>
    cases i with
    | zero =>
      simp at h
      subst h
      show (N.f z ++ N.row ys)[0 * N.k + j]? = some v
      rw [Nat.zero_mul, Nat.zero_add, List.getElem?_append_left (by rw [N.len]; exact hj)]
      exact hv
    | succ i =>
      have := ih i (by simpa using h)
      show (N.f z ++ N.row ys)[(i + 1) * N.k + j]? = some v
      rw [List.getElem?_append_right (by rw [N.len, Nat.add_mul]; omega), N.len, Nat.add_mul, show i * N.k + 1 * N.k + j - N.k = i * N.k + j by omega]
      exact this
theorem Enc.row_set {α : Type} (N : Enc α) (ys : List α) (i : Nat) (y : α) (h : i < ys.length) :
    (N.row ys).take (i * N.k) ++ N.f y ++ (N.row ys).drop (i * N.k + N.k) = N.row (ys.set i y) := by
  induction ys generalizing i with
  | nil => simp at h
  | cons z ys ih =>
    have e : ∀ l, N.row (z :: l) = N.f z ++ N.row l := fun l => rfl
    cases i with
    | zero =>
      simp only [Nat.zero_mul, List.take_zero, List.nil_append, Nat.zero_add, List.set_cons_zero, e]
      rw [List.drop_append_of_le_length (by rw [N.len]; exact Nat.le_refl _), List.drop_of_length_le (by rw [N.len]; exact Nat.le_refl _)]
      rfl
    | succ i =>
      have hi := ih i (by simpa using h)
      simp only [List.set_cons_succ, e]
      rw [← hi, show (i + 1) * N.k = N.k + i * N.k by rw [Nat.add_mul]; omega]
      rw [List.take_append, List.drop_append, List.take_of_length_le (by rw [N.len]; omega), List.drop_of_length_le (by rw [N.len]; omega), N.len]
      simp only [List.nil_append, List.append_assoc]
      rw [show N.k + i * N.k - N.k = i * N.k by omega, show N.k + i * N.k + N.k - N.k = i * N.k + N.k by omega]
/-- A slice of such values. -/
abbrev rowE {α : Type} (N : Enc α) (e : TypeId) (A : Option Addr) (c : Nat) (ys : List α) : Ch := rowCh e N.k A c ys.length (N.row ys)
abbrev roE {α : Type} (N : Enc α) (A : Option Addr) (ys : List α) : Ch := roCh A (N.row ys)
def encI (k : IntKind) : Enc Int := ⟨1, fun x => [.int k x], fun _ => rfl, by decide, fun _ => rfl⟩
def encB : Enc Bool := ⟨1, fun x => [.bool x], fun _ => rfl, by decide, fun _ => rfl⟩

section
variable {X : Cx} {E : Env} {L K : List Ch} {ops : Array Oper} {rest : List Oper} {Q : Post} {d : Nat} {ty t e : TypeId} {pos : String} {after : Array Edge} {x y : Operand} {v : Value} {vs : List Value} {A : Option Addr} {α : Type} {N : Enc α} {ys : List α} {z : α} {n c : Nat} {g : Option (Nat × Bool)}
theorem V.indexAddr {kk : IntKind} {i : Int} (ht : X.P.underlying t = some (.slice e)) (he : (X.P.info? e).map (·.size) = some N.k) (hx : ev E x = some (.slice A ys.length c)) (hy : ev E y = some (.int kk i))
    (h0 : 0 ≤ i) (h1 : i < ys.length) (hr : Has X L A (N.row ys)) :
    VO X E L ⟨some d, .indexAddr t x y, ty, pos, after, g⟩ (.pointer (some (radr A (i.toNat * N.k)))) :=
  ⟨fun c => by simp, fun a w s => by
    obtain ⟨z, hz⟩ : ∃ z, ys[i.toNat]? = some z := ⟨_, List.getElem?_eq_getElem (by omega)⟩
    have hp := N.pos
    obtain ⟨v, hv⟩ : ∃ v, (N.f z)[0]? = some v := ⟨_, List.getElem?_eq_getElem (by rw [N.len]; exact hp)⟩
    obtain ⟨⟨ad, rfl, hs⟩, _⟩ := hr _ s.ok s.ro _ _ (N.row_at ys _ z hz 0 v hv)
    have ha : ad.add (i.toNat * N.k) = radr (some ad) (i.toNat * N.k) := by
      unfold Addr.add radr
      cases ad with | mk b o sp =>
      cases hs
      split
      · rename_i h; simp [h]
      · rfl
    simp [execOp, s.eval hx, s.eval hy, Instr.indexAt, asIntOf, Sem.run_bind, Sem.run_pure, run_underlying ht, h0, h1, run_sizeOf' he, ha]⟩
/-- &a[i], a an array in a block of its own. -/
theorem V.indexAddrA {kk : IntKind} {i : Int} {len b : Nat} (ht : X.P.underlying t = some (.array len e)) (he : (X.P.info? e).map (·.size) = some N.k) (hx : ev E x = some (.pointer (some ⟨b, 0, none⟩))) (hy : ev E y = some (.int kk i)) (h0 : 0 ≤ i) (h1 : i < len) :
    VO X E L ⟨some d, .indexAddr t x y, ty, pos, after, g⟩ (.pointer (some (radr (some ⟨b, 0, none⟩) (i.toNat * N.k)))) :=
  ⟨fun c => by simp, fun a w s => by
    have ha : (⟨b, 0, none⟩ : Addr).add (i.toNat * N.k) = radr (some ⟨b, 0, none⟩) (i.toNat * N.k) := by rw [Addr.add_lit]; rfl
    simp [execOp, s.eval hx, s.eval hy, Instr.indexAt, Instr.sureAddr, asIntOf, Sem.run_bind, Sem.run_pure, run_underlying ht, h0, h1, run_sizeOf' he, ha]⟩
/-- Element j of the slice over A lies in one cell, v. -/
inductive Elem1 (X : Cx) (L : List Ch) (A : Option Addr) (N : Enc α) (j : Nat) (v : Value) : Prop
  | mk {ys : List α} {z : α} (hr : Has X L A (N.row ys)) (hz : ys[j]? = some z) (hv : N.f z = [v]) : Elem1 X L A N j v
inductive ElemA (X : Cx) (L : List Ch) (A : Option Addr) (N : Enc α) (j : Nat) (vs : List Value) : Prop
  | mk {ys : List α} {z : α} (hr : Has X L A (N.row ys)) (hz : ys[j]? = some z) (hv : N.f z = vs) : ElemA X L A N j vs
inductive ElemF (X : Cx) (L : List Ch) (A : Option Addr) (N : Enc α) (j o : Nat) (v : Value) : Prop
  | mk {ys : List α} {z : α} (hr : Has X L A (N.row ys)) (hz : ys[j]? = some z) (hv : (N.f z)[o]? = some v) : ElemF X L A N j o v
theorem V.loadE {j : Nat} (ht : Scal X.P t) (hx : ev E x = some (.pointer (some (radr A (j * N.k))))) (hl : Elem1 X L A N j v) :
    VO X E L ⟨some d, .load t x, ty, pos, after, g⟩ (v) :=
  ⟨fun c => by simp, fun a w s => by
    obtain @⟨ys, z, hr, hz, hv⟩ := hl
    have hc := (hr _ s.ok s.ro _ _ (N.row_at ys j z hz 0 v (by rw [hv]; rfl))).2
    rw [Nat.add_zero] at hc
    simp [execOp, s.eval hx, Instr.loadAt, Instr.sureAddr, Sem.run_bind, Sem.run_pure, run_loadVar1 ht hc]⟩
theorem V.loadEA {j : Nat} (ht : Aggr X.P t N.k) (hx : ev E x = some (.pointer (some (radr A (j * N.k))))) (hl : ElemA X L A N j vs) :
    VO X E L ⟨some d, .load t x, ty, pos, after, g⟩ (.agg vs.toArray) :=
  ⟨fun c => by simp, fun a w s => by
    obtain @⟨ys, z, hr, hz, rfl⟩ := hl
    have hc : ∀ i v, (N.f z)[i]? = some v → w.cell? ((radr A (j * N.k)).add i) = some v := fun i v hi => by
      have := hr _ s.ok s.ro _ _ (N.row_at ys j z hz i v hi)
      obtain ⟨⟨ad, rfl, hs⟩, hc⟩ := this
      rw [← hc]
      simp only [radr, Addr.add_lit, Nat.add_assoc]
    simp [execOp, s.eval hx, Instr.loadAt, Instr.sureAddr, Sem.run_bind, Sem.run_pure, run_loadVarK ht (N.len z) hc]⟩
/-- A field of an element. -/
theorem V.fieldAddrE {o i j : Nat} (hf : (X.P.underlying t).bind (fun | .struct fs => (fs[i]?).bind fun f => (X.P.info? f.type).map fun j => (f.offset, j.size == 0) | _ => none) = some (o, false))
    (hx : ev E x = some (.pointer (some (radr A j)))) :
    VO X E L ⟨some d, .fieldAddr t x i, ty, pos, after, g⟩ (.pointer (some (radr A (j + o)))) := by
  cases A with
  | none => exact V.fieldAddr (fs := #[]) hf hx
  | some a =>
    have h := V.fieldAddr (X := X) (E := E) (L := L) (d := d) (ty := ty) (pos := pos) (after := after) (g := g) (fs := #[]) (b := a.block) (off := a.off + j) hf hx
    rw [Nat.add_assoc] at h
    exact h
theorem V.loadF {j o : Nat} (ht : Scal X.P t) (hx : ev E x = some (.pointer (some (radr A (j * N.k + o))))) (hl : ElemF X L A N j o v) :
    VO X E L ⟨some d, .load t x, ty, pos, after, g⟩ (v) :=
  ⟨fun c => by simp, fun a w s => by
    obtain @⟨ys, z, hr, hz, hv⟩ := hl
    have hc := (hr _ s.ok s.ro _ _ (N.row_at ys j z hz o v hv)).2
    simp [execOp, s.eval hx, Instr.loadAt, Instr.sureAddr, Sem.run_bind, Sem.run_pure, run_loadVar1 ht hc]⟩
/-- An element is written. -/
inductive StoreE (L : List Ch) (A : Option Addr) (N : Enc α) (j : Nat) (z : α) : List Ch → Prop
  | mk {e : TypeId} {c : Nat} {ys : List α} {K : List Ch} (hr : Rem L (rowE N e A c ys) K) (hj : j < ys.length) : StoreE L A N j z (rowCh e N.k A c ys.length (N.row (ys.set j z)) :: K)
theorem HO.storeE {j : Nat} {L2 : List Ch} (hk : (X.P.info? t).map (·.size) = some N.k) (hx : ev E x = some (.pointer (some (radr A (j * N.k))))) (hy : ev E y = some v) (hc : v.cells = (N.f z).toArray) (hst : StoreE L A N j z L2)
    (h : HO X E L2 ops rest Q) : HO X E L ops (⟨none, .store t x y, ty, pos, after, none⟩ :: rest) Q :=
  HO.eff rfl rfl (fun c => by simp) (fun a w s => by
    obtain @⟨e, c, ys, K, hr, hj⟩ := hst
    have hown : OwnRow w e N.k A c ys.length (N.row ys) := s.chunk hr
    rcases hown.2 with ⟨_, _, hn⟩ | ⟨g, cur, rfl, hg, hnc, hcm, hcs, htake⟩
    · omega
    · have hlen : (N.f z).length = N.k := N.len z
      have hle : j * N.k + N.k ≤ ys.length * N.k := by
        have := Nat.mul_le_mul_right N.k (show j + 1 ≤ ys.length by omega)
        rw [Nat.add_mul] at this; omega
      have hle2 : ys.length * N.k ≤ c * N.k := Nat.mul_le_mul_right _ hnc
      have hst := run_storeCells_at X.P g (j * N.k) e (N.f z) 0 cur w hg (by rw [hlen]; omega) (fun v hv => (List.all_eq_true.1 (N.one z)) v hv)
      simp only [Nat.add_zero] at hst
      refine ⟨w.setRow g (cur.toList.take (j * N.k) ++ N.f z ++ cur.toList.drop (j * N.k + (N.f z).length)).toArray, ?_,
        s.ow.step hr ⟨rfl, rfl, rfl, by simp, fun k' _ hk' => setRow_other w g k' _ (fun e => hk' (by simp [rowCh, adom, e]))⟩ ?_ ?_ (by simp [rowCh, adom])⟩
      · have hsz : v.cells.size = N.k := by rw [hc]; simpa using hlen
        have hx' := s.eval hx
        simp only [radr, Nat.zero_add] at hx'
        simp [execOp, hx', s.eval hy, Instr.storeAt, Instr.sureAddr, Sem.run_bind, Sem.run_pure, storeVar, run_sizeOf' hk, hsz, hlen, hc]
        rw [hst]
        simp [hlen]
      · refine ⟨by rw [N.row_length]; simp, .inr ⟨g, _, rfl, setRow_heap w g _ _ e (0, 0) hg, hnc, hcm, ?_, ?_⟩⟩
        · simp [hlen]; omega
        · rw [← N.row_set ys j z hj, ← htake, hlen]
          have h1 : (cur.toList.take (j * N.k)).length = j * N.k := by simp; omega
          rw [List.take_append, List.take_append, h1, List.length_append, h1, hlen, List.take_take, List.take_take, List.drop_take, List.take_of_length_le (l := N.f z) (by omega)]
          rw [Nat.min_comm]
      · intro b' hb'
        simp [rowCh, adom] at hb'
        subst hb'
        have := s.dom hr b' (by simp [rowCh, adom])
        exact ⟨by simpa using this, .inl (by simp [rowCh, adom])⟩) h
end
end Go.Proofs.Ytcmlghemanjaaaa.Sl
