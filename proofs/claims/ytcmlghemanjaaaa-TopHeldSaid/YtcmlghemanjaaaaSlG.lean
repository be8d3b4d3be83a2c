/- A region that draws its order: an operation that reads, and nothing else, may be taken first; the others in whatever order comes. Nothing about one program. No conditions. -/
import Derived.Test.YtcmlghemanjaaaaSlF
import Derived.OrdersIn
set_option linter.unusedVariables false
set_option linter.unusedSimpArgs false
set_option linter.unusedSectionVars false
namespace Go.Proofs.Ytcmlghemanjaaaa.Sl
open Go Go.RowKit

/-- Post without a panic. -/
def NP (Q : Post) : Post
  | .panic _, _, _ => False
  | e, a, w => Q e a w
theorem NP.out {Q : Post} {e : Exit} {a : Act} {w : World} (h : NP Q e a w) : Q e a w := by
  cases e <;> first | exact h | exact h.elim
/-- In every world of S the operation o gives v and leaves that world as it is. -/
def Gives (P : Program) (ops : Array Oper) (S : World → Prop) (o : Oper) (v : Value) (a : Act) : Prop :=
  (Region.wanted o (yielded ops a.tmps) = true ∧ (∀ c, o.op ≠ .defer c) ∧ ∀ w, S w → (execOp a.eval o).run P w = .ok (.value v) w) ∨ (Region.wanted o (yielded ops a.tmps) = false ∧ v = undef)
section
variable {r : Option Nat} {P : Program} {ops : Array Oper} {Q : Post} {S : World → Prop}
theorem Gives.step {i : Nat} {o : Oper} {v : Value} {a : Act} (hi : ops[i]? = some o) (hy : Gives P ops S o v a) {K : Act → World → Prop} {w : World} (hS : S w) (h : K (a.put o.dst v) w) : wpOpIn (FR r) 0 P ops Q i K a w := by
  unfold wpOpIn
  rw [hi]
  dsimp only
  rcases hy with ⟨hw, hd, hv⟩ | ⟨hw, rfl⟩
  · rw [hw, if_pos rfl]
    refine ⟨fun _ _ => trivial, ?_⟩
    rw [Oper.semAt_eq _ _ _ hd, hv w hS]
    exact h
  · rw [hw, if_neg (by decide)]
    exact ⟨fun _ _ => trivial, h⟩
theorem Gives.same {o : Oper} {v : Value} {a a' : Act} (hy : Gives P ops S o v a) (he : execOp a'.eval o = execOp a.eval o) (hw : Region.wanted o (yielded ops a'.tmps) = Region.wanted o (yielded ops a.tmps)) : Gives P ops S o v a' := by
  unfold Gives at *
  rw [he, hw]
  exact hy
def noDefer (ops : Array Oper) : Bool := ops.all fun o => match o.op with | .defer _ | .select .. => false | _ => true
theorem noDefer_at (h : noDefer ops = true) {j : Nat} {o : Oper} (hj : ops[j]? = some o) : (∀ c, o.op ≠ .defer c) ∧ ∀ cs b, o.op ≠ .select cs b := by
  have hm : o ∈ ops := Array.mem_of_getElem? hj
  have := (Array.all_eq_true_iff_forall_mem.1 h) o hm
  constructor
  · intro c e; rw [e] at this; cases this
  · intro cs b e; rw [e] at this; cases this
theorem step_put {i j : Nat} {oi oj : Oper} {v : Value} (hi : ops[i]? = some oi) (hj : ops[j]? = some oj) (hap : oi.apart ops oj = true) (hno : noDefer ops = true) {K : Act → World → Prop} {a : Act} {w : World}
    (hy : Gives P ops S oi v a) (h : wpOpIn (FR r) 0 P ops (NP Q) j K (a.put oi.dst v) w) : wpOpIn (FR r) 0 P ops (NP Q) j (fun a' w' => Gives P ops S oi v a' ∧ K (a'.put oi.dst v) w') a w := by
  obtain ⟨h1, h2, h3⟩ := Oper.apart_spec hap
  have ni := noDefer_at hno hi
  have nj := noDefer_at hno hj
  have keep : ∀ u, Gives P ops S oi v (a.put oj.dst u) := fun u => hy.same (execOp_put oi ni.2 a oj.dst u h3) (wanted_put oi a oj.dst u h3)
  have swap : ∀ u, (a.put oj.dst u).put oi.dst v = (a.put oi.dst v).put oj.dst u := fun u => (Act.put_comm a v u h2).symm
  unfold wpOpIn at h ⊢
  rw [hj] at h ⊢
  dsimp only at h ⊢
  rw [wanted_put oj a oi.dst v h1] at h
  cases hw : Region.wanted oj (yielded ops a.tmps) with
  | false =>
    rw [hw, if_neg (by decide)] at h
    rw [if_neg (by decide)]
    exact ⟨fun _ _ => trivial, keep undef, by rw [swap]; exact h.2⟩
  | true =>
    rw [hw, if_pos rfl] at h
    rw [if_pos rfl]
    refine ⟨fun _ _ => trivial, ?_⟩
    have h := h.2
    rw [Oper.semAt_eq _ _ _ nj.1] at h ⊢
    rw [execOp_put oj nj.2 a oi.dst v h1] at h
    generalize (execOp a.eval oj).run P w = res at h ⊢
    cases res with
    | ok x w' =>
      cases x <;> simp only [Oper.uponIn] at h ⊢
      case value u => exact ⟨keep u, by rw [swap]; exact h⟩
      case skip => exact ⟨keep undef, by rw [swap]; exact h⟩
      case defer d =>
        refine ⟨?_, ?_⟩
        · have h0 : Gives P ops S oi v { a with defers := d :: a.defers } := hy.same rfl rfl
          exact h0.same (execOp_put oi ni.2 _ oj.dst undef h3) (wanted_put oi _ oj.dst undef h3)
        · have e := Act.put_comm { a with defers := d :: a.defers } v undef h2
          rw [← e]
          cases hd : oi.dst <;> simpa [Act.put, hd] using h
      case enter f args =>
        refine ⟨h.1, h.2.mono fun e w'' he => ?_⟩
        cases e with
        | returned u => exact ⟨keep u, by rw [swap]; exact he⟩
        | panicked c => exact he.elim
        | outgrown => exact he
      case row row args => exact ⟨h.1, h.2.mono fun u w'' he => ⟨keep u, by rw [swap]; exact he⟩⟩
      case round l f tmps assign body =>
        refine ⟨h.1, h.2.mono fun e w'' he => ?_⟩
        cases e with
        | returned u => exact ⟨keep u, by rw [swap]; exact he⟩
        | panicked c => exact he.elim
        | outgrown => exact he
    | halt x w' =>
      cases x <;> simp only [Oper.uponIn] at h ⊢
      case panic u => exact h.elim
/-- Until an operation of F has come up S holds. -/
def SF (F : List Nat) (S : World → Prop) (listed : Array Bool) (w : World) : Prop := (∀ m ∈ F, listed.getD m true = false) → S w
/-- Whatever order is drawn from here on; behind each operation S holds, until one of F has come up. -/
def AnyH (r : Option Nat) (P : Program) (ops : Array Oper) (Q : Post) (F : List Nat) (S : World → Prop) : Nat → Array Bool → Act → World → Prop
  | 0, listed, a, w => Region.ready .any ops listed = [] ∧ Q .normal a w
  | fuel + 1, listed, a, w => (Region.ready .any ops listed = [] → Q .normal a w) ∧ ∀ i ∈ Region.ready .any ops listed, wpOpIn (FR r) 0 P ops Q i (fun a' w' => SF F S (listed.setIfInBounds i true) w' ∧ AnyH r P ops Q F S fuel (listed.setIfInBounds i true) a' w') a w
theorem AnyH.any {F : List Nat} : ∀ (fuel : Nat) (listed : Array Bool) (a : Act) (w : World), AnyH r P ops Q F S fuel listed a w → wpAnyIn (FR r) 0 P .any ops Q fuel listed a w
  | 0, _, _, _, h => h
  | fuel + 1, _, _, _, h => ⟨h.1, fun i hi => wpOpIn_mono (fun a' w' h' => AnyH.any fuel _ a' w' h'.2) (h.2 i hi)⟩
theorem AnyH.first {F : List Nat} {i : Nat} {oi : Oper} {v : Value} (hi : ops[i]? = some oi) (hno : noDefer ops = true) (hF : ∀ m ∈ F, m ≠ i ∧ ∀ om, ops[m]? = some om → ∃ e ∈ om.after, Region.binds .any e = true ∧ e.on = i) : ∀ (fuel : Nat) (listed : Array Bool) (a : Act) (w : World),
    (∀ j oj, ops[j]? = some oj → j ≠ i → listed.getD j true = false → (∀ e ∈ oj.after, Region.binds .any e = true → e.on ≠ i) → oi.apart ops oj = true) →
    i ∈ Region.ready .any ops listed → Gives P ops S oi v a → (∀ m ∈ F, listed.getD m true = false) → S w → AnyH r P ops (NP Q) F S fuel (listed.setIfInBounds i true) (a.put oi.dst v) w → AnyH r P ops (NP Q) F S (fuel + 1) listed a w := by
  intro fuel
  have setF : ∀ (listed : Array Bool) (j : Nat), j ∉ F → (∀ m ∈ F, listed.getD m true = false) → ∀ m ∈ F, (listed.setIfInBounds j true).getD m true = false := by
    intro listed j hj h m hm
    rw [getD_set_ne true (fun e => hj (by rw [e]; exact hm))]
    exact h m hm
  have hiF : i ∉ F := fun h => (hF i h).1 rfl
  induction fuel with
  | zero =>
    intro listed a w _ hr hy hu hS H
    refine ⟨fun h => (by rw [h] at hr; cases hr), fun j hj => ?_⟩
    by_cases hji : j = i
    · subst hji; exact hy.step hi hS ⟨fun _ => hS, H⟩
    · have := ready_mono hj hji
      rw [H.1] at this
      cases this
  | succ fuel ih =>
    intro listed a w hfree hr hy hu hS H
    refine ⟨fun h => (by rw [h] at hr; cases hr), fun j hj => ?_⟩
    by_cases hji : j = i
    · subst hji; exact hy.step hi hS ⟨fun _ => hS, H⟩
    · have h1 := H.2 j (ready_mono hj hji)
      obtain ⟨hjun, oj, hoj, hall⟩ := mem_ready.1 hj
      have hnot : ∀ e ∈ oj.after, Region.binds .any e = true → e.on ≠ i := fun e he hb heq => by
        have g1 := hall e he hb
        have g0 := (mem_ready.1 hr).1
        rw [heq] at g1
        rcases Nat.lt_or_ge i listed.size with h' | h'
        · simp [h'] at g0 g1; rw [g0] at g1; cases g1
        · simp [Array.getElem?_eq_none h'] at g1
      have hjF : j ∉ F := fun h => by
        obtain ⟨e, he, hb, heq⟩ := (hF j h).2 oj hoj
        exact hnot e he hb heq
      have h2 := step_put hi hoj (hfree j oj hoj hji hjun hnot) hno hy h1
      refine wpOpIn_mono (fun a' w' h3 => ?_) h2
      have hSw : S w' := h3.2.1 (setF _ j hjF (setF _ i hiF hu))
      refine ⟨fun _ => hSw, ih (listed.setIfInBounds j true) a' w' ?_ (ready_mono hr (Ne.symm hji)) h3.1 (setF _ j hjF hu) hSw ?_⟩
      · intro k ok hk hki hun hno'
        refine hfree k ok hk hki ?_ hno'
        by_cases hjk : j = k
        · subst hjk; exact hjun
        · rw [getD_set_ne true hjk] at hun; exact hun
      · rw [Array.setIfInBounds_comm _ _ hji]
        exact h3.2.2
end
/-- The pieces that hold throughout a region that draws. -/
def Holds (R LS : List Ch) (w : World) : Prop := (∀ c ∈ LS, c.ok w) ∧ ∀ c ∈ R, c.ok w
/-- The goal within a region that draws. -/
def HA (X : Cx) (E : Env) (L LS : List Ch) (F : List Nat) (ops : Array Oper) (fuel : Nat) (listed : Array Bool) (Q : Post) : Prop := ∀ a w, X.st E L a w → AnyH X.r X.P ops (NP Q) F (Holds X.R LS) fuel listed a w
section
variable {X : Cx} {E : Env} {L LS : List Ch} {F : List Nat} {ops : Array Oper} {Q : Post} {fuel : Nat} {listed listed' : Array Bool}
/-- The pieces at these places. -/
inductive Picks (L : List Ch) : List Ch → Prop
  | nil : Picks L []
  | cons {i : Nat} {c : Ch} {l : List Ch} (h : L[i]? = some c) (r : Picks L l) : Picks L (c :: l)
theorem H.draws {id : Nat} {l : List Oper} {LS : List Ch} (F : List Nat) (hp : Picks L LS) (hm : X.P.follows .mixedOrders = true) (h : HA X E L LS F l.toArray l.length (Array.replicate l.length false) Q) : H X E L (.region id l.toArray true) Q := by
  intro a w s
  refine wpIn_mono (wpIn_region_any hm (AnyH.any (F := F) (S := Holds X.R LS) _ _ _ _ ?_)) fun e a w h => NP.out h
  have h1 := h a w.drew ⟨s.ro, s.df, s.sz, s.ag, s.ow.drew⟩
  have e1 : l.toArray.size = l.length := by simp
  rw [e1]
  exact h1
/-- Pieces of S are at hand. -/
inductive Sub (L : List Ch) : List Ch → Prop
  | nil : Sub L []
  | cons {c : Ch} {l : List Ch} (h : c ∈ L) (r : Sub L l) : Sub L (c :: l)
theorem Sub.mem {l : List Ch} (h : Sub L l) : ∀ c ∈ l, c ∈ L := by
  induction h with
  | nil => intro c hc; cases hc
  | cons h _ ih =>
    intro c hc
    rcases List.mem_cons.1 hc with rfl | hc
    · exact h
    · exact ih c hc
theorem Sub.holds {l : List Ch} {a : Act} {w : World} (h : Sub L l) (s : X.st E L a w) : Holds X.R l w := ⟨fun c hc => s.ow.ok c (h.mem c hc), s.kn.ro⟩
/-- An operation that reads is taken first; the value by the plain rule, over the pieces of S alone. -/
theorem HA.take {i d : Nat} {o : Oper} {v : Value} (hi : ops[i]? = some o) (hd : o.dst = some d) (hn : d < X.n) (hno : noDefer ops = true) (hf : Region.free .any ops listed i = true) (hr : (Region.ready .any ops listed).contains i = true)
    (hy : ∀ a w, X.st E L a w → Gives X.P ops (Holds X.R LS) o v a) (hS : Sub L LS) (hF : (F.all fun m => m != i && (listed.getD m true == false) && match ops[m]? with | some om => om.after.any (fun e => Region.binds .any e && e.on == i) | none => true) = true) (hl : listed.setIfInBounds i true = listed') (h : HA X ((d, v) :: E) L LS F ops fuel listed' Q) : HA X E L LS F ops (fuel + 1) listed Q := by
  intro a w s
  have hF' : ∀ m ∈ F, (m ≠ i ∧ listed.getD m true = false) ∧ ∀ om, ops[m]? = some om → ∃ e ∈ om.after, Region.binds .any e = true ∧ e.on = i := fun m hm => by
    have := List.all_eq_true.1 hF m hm
    simp only [Bool.and_eq_true, bne_iff_ne, ne_eq, beq_iff_eq] at this
    refine ⟨this.1, fun om ho => ?_⟩
    have h2 := this.2
    rw [ho] at h2
    simp only [Array.any_eq_true', Bool.and_eq_true, beq_iff_eq] at h2
    obtain ⟨e, he, h3⟩ := h2
    exact ⟨e, he, h3⟩
  refine AnyH.first hi hno (fun m hm => ⟨(hF' m hm).1.1, (hF' m hm).2⟩) fuel listed a w (Region.free_spec hi hf) (by simpa using hr) (hy a w s) (fun m hm => (hF' m hm).1.2) (hS.holds s) ?_
  rw [hl, hd]
  exact h _ _ (put_st s d v hn s.ow)
theorem HA.part {t : Nat} {b : Bool} (hb : look E t = some (.bool b)) (hT : b = true → HA X ((t, .bool true) :: E) L LS F ops fuel listed Q) (hF : b = false → HA X ((t, .bool false) :: E) L LS F ops fuel listed Q) : HA X E L LS F ops fuel listed Q := by
  intro a w s
  have key : ∀ c : Bool, b = c → X.st ((t, .bool c) :: E) L a w := fun c hc => ⟨s.ro, s.df, s.sz, fun s' u hu => by
    simp only [look] at hu
    cases hq : Nat.beq t s' with
    | false => rw [hq] at hu; exact s.ag _ _ hu
    | true =>
      rw [hq] at hu
      have := Nat.eq_of_beq_eq_true hq
      subst this
      simp at hu
      subst hu
      rw [← hc]
      exact s.ag _ _ hb, s.ow⟩
  cases hbb : b with
  | true => exact hT hbb a w (key true hbb)
  | false => exact hF hbb a w (key false hbb)
theorem HA.setT {t : Nat} {b : Bool} (hb : look E t = some (.bool b)) (h1 : b = true) (h : HA X ((t, .bool true) :: E) L LS F ops fuel listed Q) : HA X E L LS F ops fuel listed Q := HA.part hb (fun _ => h) (fun h2 => by rw [h1] at h2; cases h2)
theorem HA.setF {t : Nat} {b : Bool} (hb : look E t = some (.bool b)) (h1 : b = false) (h : HA X ((t, .bool false) :: E) L LS F ops fuel listed Q) : HA X E L LS F ops fuel listed Q := HA.part hb (fun h2 => by rw [h1] at h2; cases h2) (fun _ => h)
/-- All have come up. -/
theorem HA.done (hr : Region.ready .any ops listed = []) (h : HQ X E L .normal Q) : HA X E L LS F ops fuel listed Q := by
  intro a w s
  cases fuel with
  | zero => exact ⟨hr, h a w s⟩
  | succ n => exact ⟨fun _ => h a w s, by rw [hr]; simp⟩
/-- One may come up: it does. -/
theorem HA.one {i : Nat} {o : Oper} (hi : ops[i]? = some o) (hr : Region.ready .any ops listed = [i])
    (h : HO X E L ops [o] (Exit.then (fun a w => SF F (Holds X.R LS) (listed.setIfInBounds i true) w ∧ AnyH X.r X.P ops (NP Q) F (Holds X.R LS) fuel (listed.setIfInBounds i true) a w) (NP Q))) : HA X E L LS F ops (fuel + 1) listed Q := by
  intro a w s
  refine ⟨fun h0 => (by rw [hr] at h0; cases h0), ?_⟩
  rw [hr]
  intro j hj
  simp at hj
  subst hj
  have h1 := h a w s
  unfold wpOpIn
  rw [hi]
  dsimp only
  simp only [wpListIn] at h1
  cases hw : Region.wanted o (yielded ops a.tmps) with
  | false =>
    rw [hw, if_neg (by decide)] at h1
    rw [if_neg (by decide)]
    exact h1
  | true =>
    rw [hw, if_pos rfl] at h1
    rw [if_pos rfl]
    refine ⟨h1.1, ?_⟩
    have h1 := h1.2
    generalize (o.semAt (FR X.r).round a.eval).run X.P w = res at h1 ⊢
    cases res with
    | ok x w' =>
      cases x <;> simp only [Oper.uponIn] at h1 ⊢
      case value u => exact h1
      case skip => exact h1
      case defer d => exact h1
      case enter f args =>
        refine ⟨h1.1, h1.2.mono fun e w'' he => ?_⟩
        cases e with
        | returned u => exact he
        | panicked c => exact he.elim
        | outgrown => exact he
      case row row args => exact h1
      case round l f tmps assign body =>
        refine ⟨h1.1, h1.2.mono fun e w'' he => ?_⟩
        cases e with
        | returned u => exact he
        | panicked c => exact he.elim
        | outgrown => exact he
    | halt x w' =>
      cases x <;> simp only [Oper.uponIn] at h1 ⊢
      case panic u => exact h1
/-- Two may come up. -/
theorem HA.two {i j : Nat} {o o' : Oper} (hi : ops[i]? = some o) (hj : ops[j]? = some o') (hr : Region.ready .any ops listed = [i, j])
    (h : HO X E L ops [o] (Exit.then (fun a w => SF F (Holds X.R LS) (listed.setIfInBounds i true) w ∧ AnyH X.r X.P ops (NP Q) F (Holds X.R LS) fuel (listed.setIfInBounds i true) a w) (NP Q)))
    (h' : HO X E L ops [o'] (Exit.then (fun a w => SF F (Holds X.R LS) (listed.setIfInBounds j true) w ∧ AnyH X.r X.P ops (NP Q) F (Holds X.R LS) fuel (listed.setIfInBounds j true) a w) (NP Q))) : HA X E L LS F ops (fuel + 1) listed Q := by
  intro a w s
  refine ⟨fun h0 => (by rw [hr] at h0; cases h0), ?_⟩
  rw [hr]
  have one : ∀ (k : Nat) (ok : Oper), ops[k]? = some ok → HO X E L ops [ok] (Exit.then (fun a w => SF F (Holds X.R LS) (listed.setIfInBounds k true) w ∧ AnyH X.r X.P ops (NP Q) F (Holds X.R LS) fuel (listed.setIfInBounds k true) a w) (NP Q)) →
      wpOpIn (FR X.r) 0 X.P ops (NP Q) k (fun a' w' => SF F (Holds X.R LS) (listed.setIfInBounds k true) w' ∧ AnyH X.r X.P ops (NP Q) F (Holds X.R LS) fuel (listed.setIfInBounds k true) a' w') a w := by
    intro k ok hk hh
    have h1 := hh a w s
    unfold wpOpIn
    rw [hk]
    dsimp only
    simp only [wpListIn] at h1
    cases hw : Region.wanted ok (yielded ops a.tmps) with
    | false =>
      rw [hw, if_neg (by decide)] at h1
      rw [if_neg (by decide)]
      exact h1
    | true =>
      rw [hw, if_pos rfl] at h1
      rw [if_pos rfl]
      refine ⟨h1.1, ?_⟩
      have h1 := h1.2
      generalize (ok.semAt (FR X.r).round a.eval).run X.P w = res at h1 ⊢
      cases res with
      | ok x w' =>
        cases x <;> simp only [Oper.uponIn] at h1 ⊢
        case value u => exact h1
        case skip => exact h1
        case defer d => exact h1
        case enter f args =>
          refine ⟨h1.1, h1.2.mono fun e w'' he => ?_⟩
          cases e with
          | returned u => exact he
          | panicked c => exact he.elim
          | outgrown => exact he
        case row row args => exact h1
        case round l f tmps assign body =>
          refine ⟨h1.1, h1.2.mono fun e w'' he => ?_⟩
          cases e with
          | returned u => exact he
          | panicked c => exact he.elim
          | outgrown => exact he
      | halt x w' =>
        cases x <;> simp only [Oper.uponIn] at h1 ⊢
        case panic u => exact h1
  intro k hk
  simp at hk
  rcases hk with rfl | rfl
  · exact one _ _ hi h
  · exact one _ _ hj h'
/-- Behind one operation. -/
theorem HQ.again {i : Nat} (hS : Sub L LS) (hl : listed.setIfInBounds i true = listed') (h : HA X E L LS F ops fuel listed' Q) :
    HQ X E L .normal (Exit.then (fun a w => SF F (Holds X.R LS) (listed.setIfInBounds i true) w ∧ AnyH X.r X.P ops (NP Q) F (Holds X.R LS) fuel (listed.setIfInBounds i true) a w) (NP Q)) :=
  fun a w s => ⟨fun _ => hS.holds s, by rw [hl]; exact h a w s⟩
/-- Behind an operation of F. -/
theorem HQ.againF {i : Nat} (hm : i ∈ F) (hl : listed.setIfInBounds i true = listed') (ht : listed'.getD i true = true) (h : HA X E L LS F ops fuel listed' Q) :
    HQ X E L .normal (Exit.then (fun a w => SF F (Holds X.R LS) (listed.setIfInBounds i true) w ∧ AnyH X.r X.P ops (NP Q) F (Holds X.R LS) fuel (listed.setIfInBounds i true) a w) (NP Q)) :=
  fun a w s => ⟨fun h0 => (by have := h0 i hm; rw [hl, ht] at this; cases this), by rw [hl]; exact h a w s⟩
/-- Behind one operation, one of F having come up before. -/
theorem HQ.againL {i m : Nat} (hm : m ∈ F) (hl : listed.setIfInBounds i true = listed') (ht : listed'.getD m true = true) (h : HA X E L LS F ops fuel listed' Q) :
    HQ X E L .normal (Exit.then (fun a w => SF F (Holds X.R LS) (listed.setIfInBounds i true) w ∧ AnyH X.r X.P ops (NP Q) F (Holds X.R LS) fuel (listed.setIfInBounds i true) a w) (NP Q)) :=
  fun a w s => ⟨fun h0 => (by have := h0 m hm; rw [hl, ht] at this; cases this), by rw [hl]; exact h a w s⟩
end

/-! ### What an operation gives that reads -/
section
variable {X : Cx} {E : Env} {L LS : List Ch} {ops : Array Oper} {d : Option Nat} {ty : TypeId} {pos : String} {after : Array Edge} {v : Value} {op : Op}
/-- By the plain rule: told of a frame E and the pieces LS. -/
theorem gives_of {g : Option (Nat × Bool)} (hg : ∀ a w, X.st E L a w → Region.wanted ⟨d, op, ty, pos, after, g⟩ (yielded ops a.tmps) = true) (hv : VO X E LS ⟨d, op, ty, pos, after, g⟩ v) : ∀ a w, X.st E L a w → Gives X.P ops (Holds X.R LS) ⟨d, op, ty, pos, after, g⟩ v a :=
  fun a w s => .inl ⟨hg a w s, hv.1, fun w' hw => hv.2 a w' ⟨s.ag, hw.1, hw.2⟩⟩
theorem gives_not {g : Option (Nat × Bool)} (hg : ∀ a w, X.st E L a w → Region.wanted ⟨d, op, ty, pos, after, g⟩ (yielded ops a.tmps) = false) : ∀ a w, X.st E L a w → Gives X.P ops (Holds X.R LS) ⟨d, op, ty, pos, after, g⟩ undef a :=
  fun a w s => .inr ⟨hg a w s, rfl⟩
theorem want_none : ∀ a w, X.st E L a w → Region.wanted ⟨d, op, ty, pos, after, none⟩ (yielded ops a.tmps) = true := fun _ _ _ => rfl
theorem want_some {j t : Nat} {want b : Bool} {oj : Oper} (hj : ops[j]? = some oj) (hd : oj.dst = some t) (hb : look E t = some (.bool b)) (hw : b = want) : ∀ a w, X.st E L a w → Region.wanted ⟨d, op, ty, pos, after, some (j, want)⟩ (yielded ops a.tmps) = true :=
  fun a w s => by simp only [Region.wanted, yielded_at s hj hd hb, hw]; cases want <;> rfl
theorem want_not {j t : Nat} {want b : Bool} {oj : Oper} (hj : ops[j]? = some oj) (hd : oj.dst = some t) (hb : look E t = some (.bool b)) (hw : b = !want) : ∀ a w, X.st E L a w → Region.wanted ⟨d, op, ty, pos, after, some (j, want)⟩ (yielded ops a.tmps) = false :=
  fun a w s => by simp only [Region.wanted, yielded_at s hj hd hb, hw]; cases want <;> rfl
end
end Go.Proofs.Ytcmlghemanjaaaa.Sl
