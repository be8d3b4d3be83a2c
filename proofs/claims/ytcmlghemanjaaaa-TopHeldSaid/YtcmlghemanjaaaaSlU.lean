/- A region that draws, by a plan: the order in which its operations are taken is checked once, by bit masks. Nothing about one program. No conditions. -/
import Derived.Test.YtcmlghemanjaaaaSlT
set_option linter.unusedVariables false
set_option linter.unusedSimpArgs false
set_option linter.unusedSectionVars false
namespace Go.Proofs.Ytcmlghemanjaaaa.Sl
open Go Go.RowKit

def aftersOf (ops : Array Oper) : List (List Nat) := ops.toList.map fun o => (o.after.toList.filter (fun e => Region.binds .any e)).map (·.on)
/-- The operations of a mask have come up. -/
structure Rep (n mask : Nat) (listed : Array Bool) : Prop where
  size : listed.size = n
  bit : ∀ k, listed.getD k false = mask.testBit k
theorem Rep.lt {n mask : Nat} {listed : Array Bool} (h : Rep n mask listed) {k : Nat} (hk : k < n) : listed.getD k true = mask.testBit k := by
  rw [← h.bit k]
  have : k < listed.size := by rw [h.size]; exact hk
  simp [Array.getD, this]
theorem Rep.none (n : Nat) : Rep n 0 (Array.replicate n false) := ⟨by simp, fun k => by
  by_cases h : k < n <;> simp [Array.getD, h]⟩
def readyM (mask : Nat) : List (List Nat) → Nat → List Nat
  | [], _ => []
  | a :: r, k => if (!mask.testBit k && a.all fun e => mask.testBit e) = true then k :: readyM mask r (k + 1) else readyM mask r (k + 1)
theorem readyM_eq (mask : Nat) : ∀ (as : List (List Nat)) (k : Nat), readyM mask as k = (List.range' k as.length).filter fun i => !mask.testBit i && ((as[i - k]?).map fun a => a.all fun e => mask.testBit e).getD false
  | [], _ => rfl
  | a :: r, k => by
    rw [List.length_cons, List.range'_succ, List.filter_cons]
    have h0 : (((a :: r)[k - k]?).map fun a => a.all fun e => mask.testBit e).getD false = a.all fun e => mask.testBit e := by simp
    have hr : (List.range' (k + 1) r.length).filter (fun i => !mask.testBit i && (((a :: r)[i - k]?).map fun a => a.all fun e => mask.testBit e).getD false) = readyM mask r (k + 1) := by
      rw [readyM_eq mask r (k + 1)]
      apply List.filter_congr
      intro i hi
      rw [List.mem_range'_1] at hi
      rw [show i - k = (i - (k + 1)) + 1 by omega]
      simp
    rw [h0, hr]
    rfl
theorem ready_mask {ops : Array Oper} {as : List (List Nat)} {mask : Nat} {listed : Array Bool} (ha : aftersOf ops = as) (hr : Rep ops.size mask listed) : Region.ready .any ops listed = readyM mask as 0 := by
  have hl : as.length = ops.size := by rw [← ha]; simp [aftersOf]
  rw [readyM_eq, hl, ← List.range_eq_range']
  unfold Region.ready
  apply List.filter_congr
  intro i hi
  rw [List.mem_range] at hi
  rw [hr.lt hi]
  congr 1
  have h1 : as[i - 0]? = (ops[i]?).map fun o => (o.after.toList.filter (fun e => Region.binds .any e)).map (·.on) := by
    rw [Nat.sub_zero, ← ha]
    simp [aftersOf, List.getElem?_map]
  rw [h1]
  cases ops[i]? with
  | none => rfl
  | some o =>
    simp only [Option.map_some, Option.getD_some, List.all_map, List.all_filter, ← Array.all_toList]
    congr 1
    funext e
    simp only [Function.comp, hr.bit]
theorem Rep.set {n mask : Nat} {listed : Array Bool} (h : Rep n mask listed) {i : Nat} (hi : i < n) : Rep n (mask ||| 1 <<< i) (listed.setIfInBounds i true) := by
  refine ⟨by rw [Array.size_setIfInBounds]; exact h.size, fun k => ?_⟩
  rw [Nat.testBit_or, Nat.one_shiftLeft, Nat.testBit_two_pow, ← h.bit k]
  have hs := h.size
  by_cases e : i = k
  · subst e
    simp [Array.getD, hs, hi]
  · by_cases hk : k < listed.size
    · simp [Array.getD, hk, Array.getElem_setIfInBounds, e]
    · simp [Array.getD, hk, e]
inductive Plan
  | done
  | take (i : Nat) (p : Plan)
  | one (i : Nat) (p : Plan)
  | two (i j : Nat) (p q : Plan)
  | part (p q : Plan)
def Plan.size : Plan → Nat
  | .done => 0
  | .take _ p => p.size + 1
  | .one _ p => p.size + 1
  | .two _ _ p q => max p.size q.size + 1
  | .part p q => max p.size q.size
def takeM (F : List Nat) (ops : Array Oper) (as : List (List Nat)) (mask i : Nat) : Bool :=
  Nat.blt i ops.size && !mask.testBit i && (((as[i]?).map fun a => a.all fun e => mask.testBit e).getD false) &&
  ((List.range ops.size).all fun j => Nat.beq j i || mask.testBit j || ((as[j]?).map fun a => a.contains i).getD true || (match ops[i]?, ops[j]? with | some oi, some oj => oi.apart ops oj | _, _ => true)) &&
  (F.all fun m => !Nat.beq m i && !mask.testBit m && ((as[m]?).map fun a => a.contains i).getD true && Nat.blt m ops.size)
def eqL : List Nat → List Nat → Bool
  | [], [] => true
  | a :: r, b :: s => Nat.beq a b && eqL r s
  | _, _ => false
theorem eqL_eq : ∀ {l m : List Nat}, eqL l m = true → l = m
  | [], [], _ => rfl
  | a :: r, b :: s, h => by
    simp only [eqL, Bool.and_eq_true] at h
    rw [Nat.eq_of_beq_eq_true h.1, eqL_eq h.2]
  | [], _ :: _, h => by cases h
  | _ :: _, [], h => by cases h
def planOk (F : List Nat) (ops : Array Oper) (as : List (List Nat)) : Plan → Nat → Bool
  | .done, mask => eqL (readyM mask as 0) []
  | .take i p, mask => takeM F ops as mask i && planOk F ops as p (mask ||| 1 <<< i)
  | .one i p, mask => eqL (readyM mask as 0) [i] && planOk F ops as p (mask ||| 1 <<< i)
  | .two i j p q, mask => eqL (readyM mask as 0) [i, j] && (planOk F ops as p (mask ||| 1 <<< i) && planOk F ops as q (mask ||| 1 <<< j))
  | .part p q, mask => planOk F ops as p mask && planOk F ops as q mask
/-- The goal within a region that draws, by a plan. -/
def HP (X : Cx) (E : Env) (L LS : List Ch) (F : List Nat) (ops : Array Oper) (as : List (List Nat)) (p : Plan) (mask : Nat) (Q : Post) : Prop :=
  ∀ fuel listed, noDefer ops = true → aftersOf ops = as → Rep ops.size mask listed → planOk F ops as p mask = true → p.size ≤ fuel → HA X E L LS F ops fuel listed Q
/-- What is handed on behind one operation. -/
def Nxt (X : Cx) (LS : List Ch) (F : List Nat) (ops : Array Oper) (fuel : Nat) (listed : Array Bool) (Q : Post) : Post :=
  Exit.then (fun a w => SF F (Holds X.R LS) listed w ∧ AnyH X.r X.P ops (NP Q) F (Holds X.R LS) fuel listed a w) (NP Q)
section
variable {X : Cx} {E : Env} {L LS : List Ch} {F : List Nat} {ops : Array Oper} {as : List (List Nat)} {p q : Plan} {mask : Nat} {Q : Post}
theorem H.drawsP {id : Nat} {l : List Oper} (LS : List Ch) (F : List Nat) (as : List (List Nat)) (p : Plan) (hp : Sub L LS) (hm : X.P.follows .mixedOrders = true) (hd : noDefer l.toArray = true) (ha : aftersOf l.toArray = as) (hk : planOk F l.toArray as p 0 = true) (hs : Nat.ble p.size l.length = true)
    (h : HP X E L LS F l.toArray as p 0 Q) : H X E L (.region id l.toArray true) Q :=
  H.drawsS LS F hp hm (h l.length _ hd ha (by have := Rep.none l.length; simpa using this) hk (Nat.le_of_ble_eq_true hs))
theorem Picks.sub {l : List Ch} (h : Picks L l) : Sub L l := by
  induction h with
  | nil => exact .nil
  | cons h _ ih => exact .cons (List.mem_of_getElem? h) ih
/-- Pieces by their places. -/
theorem Sub.at {L l : List Ch} (is : List Nat) (h : is.map (fun i => L[i]?) = l.map some) : Sub L l := by
  induction l generalizing is with
  | nil => exact .nil
  | cons c l ih =>
    cases is with
    | nil => cases h
    | cons i is =>
      simp only [List.map_cons, List.cons.injEq] at h
      exact .cons (List.mem_of_getElem? h.1) (ih is h.2)
theorem HP.done (h : HQ X E L .normal Q) : HP X E L LS F ops as .done mask Q := fun fuel listed _ ha hr hk _ =>
  HA.done (by rw [ready_mask ha hr]; exact eqL_eq hk) h
theorem HP.take {i d : Nat} {o : Oper} {v : Value} (hi : ops[i]? = some o) (hd : o.dst = some d) (hn : d < X.n) (hy : ∀ a w, X.st E L a w → Gives X.P ops (Holds X.R LS) o v a) (hS : Sub L LS)
    (h : HP X ((d, v) :: E) L LS F ops as p (mask ||| 1 <<< i) Q) : HP X E L LS F ops as (.take i p) mask Q := by
  intro fuel listed hno ha hr hk hs
  obtain ⟨fuel, rfl⟩ : ∃ f, fuel = f + 1 := ⟨fuel - 1, by simp only [Plan.size] at hs; omega⟩
  simp only [planOk, takeM, Bool.and_eq_true] at hk
  obtain ⟨⟨⟨⟨⟨h1, h2⟩, h3⟩, h4⟩, h5⟩, h6⟩ := hk
  have hin : i < ops.size := Nat.lt_of_lt_of_le (Nat.lt_succ_self i) (Nat.le_of_ble_eq_true h1)
  have haj : ∀ (j : Nat) (oj : Oper), ops[j]? = some oj → as[j]? = some ((oj.after.toList.filter (fun e => Region.binds .any e)).map (·.on)) := by
    intro j oj hj
    rw [← ha]
    simp [aftersOf, List.getElem?_map, hj]
  have hcont : ∀ (j : Nat) (oj : Oper), ops[j]? = some oj → ((as[j]?).map fun a => a.contains i).getD true = true → ∃ e ∈ oj.after, Region.binds .any e = true ∧ e.on = i := by
    intro j oj hj hc
    rw [haj j oj hj] at hc
    simp only [Option.map_some, Option.getD_some, List.contains_iff_mem, List.mem_map, List.mem_filter] at hc
    obtain ⟨e, ⟨he, hb⟩, hon⟩ := hc
    exact ⟨e, Array.mem_toList_iff.1 he, hb, hon⟩
  refine HA.take hi hd hn hno ?_ ?_ hy hS ?_ rfl (h fuel _ hno ha (hr.set hin) h6 (by simp only [Plan.size] at hs; omega))
  · unfold Region.free
    rw [hi]
    simp only [List.all_eq_true, List.mem_range]
    intro j hj
    have hq := List.all_eq_true.1 h4 j (List.mem_range.2 hj)
    have hoj : ops[j]? = some ops[j] := Array.getElem?_eq_getElem hj
    simp only [Bool.or_eq_true, hi, hoj] at hq
    simp only [hoj, Bool.or_eq_true, beq_iff_eq]
    rcases hq with ((hq | hq) | hq) | hq
    · exact .inl (.inl (Nat.eq_of_beq_eq_true hq))
    · exact .inl (.inr (by rw [hr.lt hj]; exact hq))
    · obtain ⟨e, he, hb, hon⟩ := hcont j _ hoj hq
      exact .inr (.inl (Array.any_eq_true'.2 ⟨e, he, by simp [hb, hon]⟩))
    · exact .inr (.inr hq)
  · rw [ready_mask ha hr, readyM_eq, List.contains_iff_mem, List.mem_filter, List.mem_range'_1]
    have hl : as.length = ops.size := by rw [← ha]; simp [aftersOf]
    exact ⟨by omega, by rw [Nat.sub_zero, h2, h3]; rfl⟩
  · rw [List.all_eq_true] at h5 ⊢
    intro m hm
    have hq := h5 m hm
    simp only [Bool.and_eq_true, Bool.not_eq_true'] at hq
    obtain ⟨⟨⟨g1, g2⟩, g3⟩, g4⟩ := hq
    have hmn : m < ops.size := Nat.lt_of_lt_of_le (Nat.lt_succ_self m) (Nat.le_of_ble_eq_true g4)
    have hom : ops[m]? = some ops[m] := Array.getElem?_eq_getElem hmn
    obtain ⟨e, he, hb, hon⟩ := hcont m _ hom g3
    simp only [hom, Bool.and_eq_true, bne_iff_ne, ne_eq, beq_iff_eq]
    refine ⟨⟨fun e => by rw [e] at g1; simp at g1, by rw [hr.lt hmn]; exact g2⟩, Array.any_eq_true'.2 ⟨e, he, by simp [hb, hon]⟩⟩
theorem HP.part {t : Nat} {b : Bool} (hb : look E t = some (.bool b)) (hT : b = true → HP X ((t, .bool true) :: E) L LS F ops as p mask Q) (hF : b = false → HP X ((t, .bool false) :: E) L LS F ops as q mask Q) : HP X E L LS F ops as (.part p q) mask Q := by
  intro fuel listed hno ha hr hk hs
  simp only [planOk, Bool.and_eq_true] at hk
  simp only [Plan.size] at hs
  exact HA.part hb (fun h => hT h fuel listed hno ha hr hk.1 (by omega)) (fun h => hF h fuel listed hno ha hr hk.2 (by omega))
theorem HP.setT {t : Nat} {b : Bool} (hb : look E t = some (.bool b)) (h1 : b = true) (h : HP X ((t, .bool true) :: E) L LS F ops as p mask Q) : HP X E L LS F ops as p mask Q :=
  fun fuel listed hno ha hr hk hs => HA.setT hb h1 (h fuel listed hno ha hr hk hs)
theorem HP.setF {t : Nat} {b : Bool} (hb : look E t = some (.bool b)) (h1 : b = false) (h : HP X ((t, .bool false) :: E) L LS F ops as p mask Q) : HP X E L LS F ops as p mask Q :=
  fun fuel listed hno ha hr hk hs => HA.setF hb h1 (h fuel listed hno ha hr hk hs)
theorem size_lt {i : Nat} {o : Oper} (hi : ops[i]? = some o) : i < ops.size := (Array.getElem?_eq_some_iff.1 hi).1
theorem HP.one {i : Nat} {o : Oper} (hi : ops[i]? = some o)
    (h : ∀ fuel listed, noDefer ops = true → aftersOf ops = as → Rep ops.size (mask ||| 1 <<< i) listed → planOk F ops as p (mask ||| 1 <<< i) = true → p.size ≤ fuel → HO X E L ops [o] (Nxt X LS F ops fuel listed Q)) : HP X E L LS F ops as (.one i p) mask Q := by
  intro fuel listed hno ha hr hk hs
  obtain ⟨fuel, rfl⟩ : ∃ f, fuel = f + 1 := ⟨fuel - 1, by simp only [Plan.size] at hs; omega⟩
  simp only [planOk, Bool.and_eq_true] at hk
  exact HA.one hi (by rw [ready_mask ha hr]; exact eqL_eq hk.1) (h fuel _ hno ha (hr.set (size_lt hi)) hk.2 (by simp only [Plan.size] at hs; omega))
theorem HP.two {i j : Nat} {o o' : Oper} (hi : ops[i]? = some o) (hj : ops[j]? = some o')
    (h : ∀ fuel listed, noDefer ops = true → aftersOf ops = as → Rep ops.size (mask ||| 1 <<< i) listed → planOk F ops as p (mask ||| 1 <<< i) = true → p.size ≤ fuel → HO X E L ops [o] (Nxt X LS F ops fuel listed Q))
    (h' : ∀ fuel listed, noDefer ops = true → aftersOf ops = as → Rep ops.size (mask ||| 1 <<< j) listed → planOk F ops as q (mask ||| 1 <<< j) = true → q.size ≤ fuel → HO X E L ops [o'] (Nxt X LS F ops fuel listed Q)) : HP X E L LS F ops as (.two i j p q) mask Q := by
  intro fuel listed hno ha hr hk hs
  obtain ⟨fuel, rfl⟩ : ∃ f, fuel = f + 1 := ⟨fuel - 1, by simp only [Plan.size] at hs; omega⟩
  simp only [planOk, Bool.and_eq_true] at hk
  simp only [Plan.size] at hs
  exact HA.two hi hj (by rw [ready_mask ha hr]; exact eqL_eq hk.1) (h fuel _ hno ha (hr.set (size_lt hi)) hk.2.1 (by omega)) (h' fuel _ hno ha (hr.set (size_lt hj)) hk.2.2 (by omega))
/-- Behind one operation. -/
theorem HQ.nxt {fuel : Nat} {listed : Array Bool} (hno : noDefer ops = true) (ha : aftersOf ops = as) (hr : Rep ops.size mask listed) (hk : planOk F ops as p mask = true) (hs : p.size ≤ fuel) (hS : Sub L LS) (h : HP X E L LS F ops as p mask Q) : HQ X E L .normal (Nxt X LS F ops fuel listed Q) :=
  fun a w s => ⟨fun _ => hS.holds s, h fuel listed hno ha hr hk hs a w s⟩
/-- Behind one operation, one of F having come up. -/
theorem HQ.nxtF {fuel m : Nat} {listed : Array Bool} (hno : noDefer ops = true) (ha : aftersOf ops = as) (hr : Rep ops.size mask listed) (hk : planOk F ops as p mask = true) (hs : p.size ≤ fuel) (hm : m ∈ F) (hb : mask.testBit m = true) (hmn : Nat.blt m ops.size = true) (h : HP X E L LS F ops as p mask Q) : HQ X E L .normal (Nxt X LS F ops fuel listed Q) :=
  fun a w s => ⟨fun h0 => (by have h1 := h0 m hm; rw [hr.lt (Nat.lt_of_lt_of_le (Nat.lt_succ_self m) (Nat.le_of_ble_eq_true hmn)), hb] at h1; cases h1), h fuel listed hno ha hr hk hs a w s⟩
end
end Go.Proofs.Ytcmlghemanjaaaa.Sl
