/- Plain rules for walking a Go function: a frame is known by a list of temporaries, memory by a list of pieces that lie apart. Nothing about one program. No conditions. -/
import Derived.CallsIn
import Derived.TacticsIn
import Derived.RangeFuncLeaves
import Derived.Maps.AppendAt
import Derived.Laws.MakeOwn
import Derived.Laws.OwnMore
import Derived.OwnWalkIn
import Derived.KernelRfl
import Derived.Below
set_option linter.unusedVariables false
set_option linter.unusedSimpArgs false
set_option linter.unusedSectionVars false
namespace Go.Proofs.Ytcmlghemanjaaaa.Sl
open Go Go.RowKit

/-! ### 1. What is known of a frame -/
abbrev Env := List (Nat × Value)
def look : Env → Nat → Option Value
  | [], _ => none
  | (s, v) :: r, t => bif Nat.beq s t then some v else look r t
def ev (E : Env) : Operand → Option Value
  | .tmp t => look E t
  | .const v => some v
  | .global g => some (.pointer (some ⟨g, 0, none⟩))
  | .func f => some (.func (.func f) #[] #[])
def Agree (E : Env) (T : Array Value) : Prop := ∀ t v, look E t = some v → T.getD t undef = v
theorem Agree.nil (T : Array Value) : Agree [] T := fun t v h => by cases h
theorem Agree.put {E : Env} {T : Array Value} (h : Agree E T) (d : Nat) (v : Value) (hd : d < T.size) : Agree ((d, v) :: E) (T.setIfInBounds d v) := by
  intro t u hu
  simp only [look] at hu
  by_cases e : d = t
  · subst e
    simp at hu
    subst hu
    simp [Array.getD, hd]
  · have hb : Nat.beq d t = false := by
      cases hq : Nat.beq d t with
      | false => rfl
      | true => exact absurd (Nat.eq_of_beq_eq_true hq) e
    rw [hb] at hu
    have := h t u hu
    rw [← this]
    by_cases ht : t < T.size
    · simp [Array.getD, ht, Array.getElem_setIfInBounds, e]
    · simp [Array.getD, ht]
/-- The temporaries that are kept, with what they hold. -/
inductive Keep (E : Env) : Env → Prop
  | nil : Keep E []
  | cons {t : Nat} {v : Value} {r : Env} (h : look E t = some v) (k : Keep E r) : Keep E ((t, v) :: r)
theorem Keep.agree {E E' : Env} {T : Array Value} (k : Keep E E') (h : Agree E T) : Agree E' T := by
  induction k with
  | nil => exact Agree.nil T
  | @cons t v r hl _ ih =>
    intro s u hu
    simp only [look] at hu
    by_cases e : t = s
    · subst e
      simp at hu
      subst hu
      exact h _ _ hl
    · have hb : Nat.beq t s = false := by
        cases hq : Nat.beq t s with
        | false => rfl
        | true => exact absurd (Nat.eq_of_beq_eq_true hq) e
      rw [hb] at hu
      exact ih s u hu

/-! ### 2. Pieces of memory -/
structure Ch where
  dom : List Nat
  ok : World → Prop
  loc : ∀ w w', (∀ b ∈ dom, w'.heap[b]? = w.heap[b]?) → ok w → ok w'
/-- What has turned since w0: new blocks, and the blocks of M. -/
structure Tch (M : List Nat) (w0 w : World) : Prop where
  os : w.os = w0.os
  tape : w.tape = w0.tape
  output : w.output = w0.output
  size : w0.heap.size ≤ w.heap.size
  old : ∀ b, b < w0.heap.size → b ∉ M → w.heap[b]? = w0.heap[b]?
theorem Tch.refl (M : List Nat) (w : World) : Tch M w w := ⟨rfl, rfl, rfl, Nat.le_refl _, fun _ _ _ => rfl⟩
theorem Tch.below {w0 w : World} (h : Tch [] w0 w) : Below w0.heap.size w0 w := ⟨h.os, h.tape, h.output, h.size, fun b hb => h.old b hb (by simp)⟩
def doms (L : List Ch) : List Nat := L.flatMap Ch.dom
/-- Pieces that may be written: new since w0, or among M; they lie apart. -/
structure Own (w0 : World) (M : List Nat) (L : List Ch) (w : World) : Prop where
  tch : Tch M w0 w
  ok : ∀ c ∈ L, c.ok w
  lt : ∀ b ∈ doms L, b < w.heap.size
  own : ∀ b ∈ doms L, w0.heap.size ≤ b ∨ b ∈ M
  nd : (doms L).Nodup
/-- Pieces that are only read. -/
def Ro (w0 : World) (M : List Nat) (R : List Ch) : Prop := ∀ c ∈ R, c.ok w0 ∧ ∀ b ∈ c.dom, b < w0.heap.size ∧ b ∉ M
theorem Ro.nil (w0 : World) (M : List Nat) : Ro w0 M [] := fun c hc => by cases hc
theorem Ro.ok {w0 w : World} {M : List Nat} {R : List Ch} (h : Ro w0 M R) (t : Tch M w0 w) {c : Ch} (hc : c ∈ R) : c.ok w :=
  c.loc w0 w (fun b hb => t.old b ((h c hc).2 b hb).1 ((h c hc).2 b hb).2) (h c hc).1

theorem doms_cons (c : Ch) (L : List Ch) : doms (c :: L) = c.dom ++ doms L := rfl
theorem doms_append (L K : List Ch) : doms (L ++ K) = doms L ++ doms K := List.flatMap_append
theorem mem_doms {b : Nat} {c : Ch} {L : List Ch} (hc : c ∈ L) (hb : b ∈ c.dom) : b ∈ doms L := List.mem_flatMap.2 ⟨c, hc, hb⟩

/-- One piece is taken out. -/
inductive Rem : List Ch → Ch → List Ch → Prop
  | here {c : Ch} {L : List Ch} : Rem (c :: L) c L
  | there {c d : Ch} {L K : List Ch} (h : Rem L c K) : Rem (d :: L) c (d :: K)
theorem Rem.perm {L K : List Ch} {c : Ch} (h : Rem L c K) : L.Perm (c :: K) := by
  induction h with
  | here => exact List.Perm.refl _
  | there _ ih => exact (List.Perm.cons _ ih).trans (List.Perm.swap _ _ _)
/-- Pieces are taken out, in an order of one's own. -/
inductive Rems : List Ch → List Ch → List Ch → Prop
  | nil {L : List Ch} : Rems L [] L
  | cons {L K J : List Ch} {c : Ch} {l : List Ch} (h : Rem L c K) (r : Rems K l J) : Rems L (c :: l) J
theorem Rems.perm {L K l : List Ch} (h : Rems L l K) : L.Perm (l ++ K) := by
  induction h with
  | nil => exact List.Perm.refl _
  | cons h _ ih => exact h.perm.trans (List.Perm.cons _ ih)
theorem doms_perm {L K : List Ch} (h : L.Perm K) : (doms L).Perm (doms K) := List.Perm.flatMap_right _ h
theorem Own.perm {w0 w : World} {M : List Nat} {L K : List Ch} (h : Own w0 M L w) (p : L.Perm K) : Own w0 M K w :=
  ⟨h.tch, fun c hc => h.ok c (p.mem_iff.2 hc), fun b hb => h.lt b ((doms_perm p).mem_iff.2 hb), fun b hb => h.own b ((doms_perm p).mem_iff.2 hb), (doms_perm p).nodup_iff.1 h.nd⟩
theorem Own.drop {w0 w : World} {M : List Nat} {L K : List Ch} (h : Own w0 M (L ++ K) w) : Own w0 M L w :=
  ⟨h.tch, fun c hc => h.ok c (List.mem_append_left _ hc), fun b hb => h.lt b (by rw [doms_append]; exact List.mem_append_left _ hb),
    fun b hb => h.own b (by rw [doms_append]; exact List.mem_append_left _ hb), by have := h.nd; rw [doms_append] at this; exact (List.nodup_append.1 this).1⟩
theorem Own.rems {w0 w : World} {M : List Nat} {L l K : List Ch} (h : Own w0 M L w) (r : Rems L l K) : Own w0 M l w := (h.perm r.perm).drop
theorem Own.addFree {w0 w : World} {M : List Nat} {L : List Ch} (h : Own w0 M L w) (c : Ch) (hd : c.dom = []) (hok : c.ok w) : Own w0 M (c :: L) w := by
  have e : doms (c :: L) = doms L := by rw [doms_cons, hd]; rfl
  refine ⟨h.tch, ?_, ?_, ?_, ?_⟩
  · intro d hdm
    rcases List.mem_cons.1 hdm with rfl | hm
    · exact hok
    · exact h.ok d hm
  · rw [e]; exact h.lt
  · rw [e]; exact h.own
  · rw [e]; exact h.nd

/-- What a step may do to one piece: it turns it, and may lay new blocks. -/
theorem Own.step {w0 w w' : World} {M : List Nat} {L K : List Ch} {c c' : Ch} (h : Own w0 M L w) (r : Rem L c K) (ht : Tch c.dom w w') (hok : c'.ok w')
    (hdm : ∀ b ∈ c'.dom, b < w'.heap.size ∧ (b ∈ c.dom ∨ w.heap.size ≤ b)) (hnd : c'.dom.Nodup) : Own w0 M (c' :: K) w' := by
  have hp := h.perm r.perm
  have hdis : ∀ b ∈ doms K, b ∉ c.dom := fun b hb hc => by
    have := hp.nd
    rw [doms_cons] at this
    exact (List.nodup_append.1 this).2.2 b hc b hb rfl
  have hlt : ∀ b ∈ doms K, b < w.heap.size := fun b hb => hp.lt b (by rw [doms_cons]; exact List.mem_append_right _ hb)
  have hM : ∀ b ∈ c.dom, w0.heap.size ≤ b ∨ b ∈ M := fun b hb => hp.own b (by rw [doms_cons]; exact List.mem_append_left _ hb)
  refine ⟨⟨ht.os.trans h.tch.os, ht.tape.trans h.tch.tape, ht.output.trans h.tch.output, Nat.le_trans h.tch.size ht.size, ?_⟩, ?_, ?_, ?_, ?_⟩
  · intro b hb hbM
    rw [ht.old b (Nat.lt_of_lt_of_le hb h.tch.size) (fun hc => by rcases hM b hc with h1 | h1; omega; exact hbM h1)]
    exact h.tch.old b hb hbM
  · intro d hd
    rcases List.mem_cons.1 hd with rfl | hd
    · exact hok
    · exact d.loc w w' (fun b hb => ht.old b (hlt b (mem_doms hd hb)) (hdis b (mem_doms hd hb))) (hp.ok d (List.mem_cons_of_mem _ hd))
  · intro b hb
    rw [doms_cons] at hb
    rcases List.mem_append.1 hb with hb | hb
    · exact (hdm b hb).1
    · exact Nat.lt_of_lt_of_le (hlt b hb) ht.size
  · intro b hb
    rw [doms_cons] at hb
    rcases List.mem_append.1 hb with hb | hb
    · rcases (hdm b hb).2 with h1 | h1
      · exact hM b h1
      · exact .inl (Nat.le_trans h.tch.size h1)
    · exact hp.own b (by rw [doms_cons]; exact List.mem_append_right _ hb)
  · rw [doms_cons]
    refine List.nodup_append.2 ⟨hnd, ?_, ?_⟩
    · have := hp.nd; rw [doms_cons] at this; exact (List.nodup_append.1 this).2.1
    · intro b hb d hd e
      subst e
      rcases (hdm b hb).2 with h1 | h1
      · exact hdis b hd h1
      · have := hlt b hd; omega
/-- Many pieces are handed over, others come back. -/
theorem Own.call {w0 w w' : World} {M : List Nat} {L l K l' : List Ch} (h : Own w0 M L w) (r : Rems L l K) (k : Own w (doms l) l' w') : Own w0 M (l' ++ K) w' := by
  have hp := h.perm r.perm
  have hnd : (doms l ++ doms K).Nodup := by have := hp.nd; rwa [doms_append] at this
  have hdis : ∀ b ∈ doms K, b ∉ doms l := fun b hb hc => (List.nodup_append.1 hnd).2.2 b hc b hb rfl
  have hlt : ∀ b ∈ doms K, b < w.heap.size := fun b hb => hp.lt b (by rw [doms_append]; exact List.mem_append_right _ hb)
  have hM : ∀ b ∈ doms l, w0.heap.size ≤ b ∨ b ∈ M := fun b hb => hp.own b (by rw [doms_append]; exact List.mem_append_left _ hb)
  have ht := k.tch
  refine ⟨⟨ht.os.trans h.tch.os, ht.tape.trans h.tch.tape, ht.output.trans h.tch.output, Nat.le_trans h.tch.size ht.size, ?_⟩, ?_, ?_, ?_, ?_⟩
  · intro b hb hbM
    rw [ht.old b (Nat.lt_of_lt_of_le hb h.tch.size) (fun hc => by rcases hM b hc with h1 | h1; omega; exact hbM h1)]
    exact h.tch.old b hb hbM
  · intro d hd
    rcases List.mem_append.1 hd with hd | hd
    · exact k.ok d hd
    · exact d.loc w w' (fun b hb => ht.old b (hlt b (mem_doms hd hb)) (hdis b (mem_doms hd hb))) (hp.ok d (List.mem_append_right _ hd))
  · intro b hb
    rw [doms_append] at hb
    rcases List.mem_append.1 hb with hb | hb
    · exact k.lt b hb
    · exact Nat.lt_of_lt_of_le (hlt b hb) ht.size
  · intro b hb
    rw [doms_append] at hb
    rcases List.mem_append.1 hb with hb | hb
    · rcases k.own b hb with h1 | h1
      · exact .inl (Nat.le_trans h.tch.size h1)
      · exact hM b h1
    · exact hp.own b (by rw [doms_append]; exact List.mem_append_right _ hb)
  · rw [doms_append]
    refine List.nodup_append.2 ⟨k.nd, (List.nodup_append.1 hnd).2.1, ?_⟩
    intro b hb d hd e
    subst e
    rcases k.own b hb with h1 | h1
    · have := hlt b hd; omega
    · exact hdis b hd h1
/-- A new block is laid. -/
theorem Own.new {w0 w : World} {M : List Nat} {L : List Ch} (h : Own w0 M L w) (o : Obj) (c : Ch) (hd : c.dom = [w.heap.size]) (hok : c.ok (w.alloc o)) : Own w0 M (c :: L) (w.alloc o) := by
  have hsz : (w.alloc o).heap.size = w.heap.size + 1 := by simp
  have hold : ∀ b, b < w.heap.size → (w.alloc o).heap[b]? = w.heap[b]? := fun b hb => heap_alloc_old w o b hb
  refine ⟨⟨h.tch.os, h.tch.tape, h.tch.output, by have := h.tch.size; omega, ?_⟩, ?_, ?_, ?_, ?_⟩
  · intro b hb hbM
    rw [hold b (Nat.lt_of_lt_of_le hb h.tch.size)]
    exact h.tch.old b hb hbM
  · intro d hdm
    rcases List.mem_cons.1 hdm with rfl | hdm
    · exact hok
    · exact d.loc w _ (fun b hb => hold b (h.lt b (mem_doms hdm hb))) (h.ok d hdm)
  · intro b hb
    rw [doms_cons, hd] at hb
    rcases List.mem_append.1 hb with hb | hb
    · simp at hb; omega
    · have := h.lt b hb; omega
  · intro b hb
    rw [doms_cons, hd] at hb
    rcases List.mem_append.1 hb with hb | hb
    · simp at hb; subst hb; exact .inl h.tch.size
    · exact h.own b hb
  · rw [doms_cons, hd]
    refine List.nodup_append.2 ⟨by simp, h.nd, ?_⟩
    intro b hb d hdm e
    simp at hb
    subst e
    have := h.lt b hdm
    omega
theorem Own.drew {w0 w : World} {M : List Nat} {L : List Ch} (h : Own w0 M L w) : Own w0 M L w.drew :=
  ⟨⟨h.tch.os, h.tch.tape, h.tch.output, h.tch.size, h.tch.old⟩, fun c hc => c.loc w _ (fun _ _ => rfl) (h.ok c hc), h.lt, h.own, h.nd⟩

/-! ### 3. Triples -/
abbrev FR (r : Option Nat) : Fence := { fn := fun _ => True, depth := none, alive := false, round := r }
/-- What a frame and memory are known to be. -/
structure St (w0 : World) (M : List Nat) (R : List Ch) (n : Nat) (D : List Deferred) (E : Env) (L : List Ch) (a : Act) (w : World) : Prop where
  ro : Ro w0 M R
  df : a.defers = D
  sz : a.tmps.size = n
  ag : Agree E a.tmps
  ow : Own w0 M L w
/-- The surroundings of a walk. -/
structure Cx where
  r : Option Nat
  P : Program
  w0 : World
  M : List Nat
  R : List Ch
  n : Nat
  D : List Deferred
abbrev Cx.st (X : Cx) (E : Env) (L : List Ch) (a : Act) (w : World) : Prop := St X.w0 X.M X.R X.n X.D E L a w
abbrev Post := Exit → Act → World → Prop
def H (X : Cx) (E : Env) (L : List Ch) (c : Code) (Q : Post) : Prop := ∀ a w, X.st E L a w → c.wpIn (FR X.r) 0 X.P Q a w
def HO (X : Cx) (E : Env) (L : List Ch) (ops : Array Oper) (rest : List Oper) (Q : Post) : Prop := ∀ a w, X.st E L a w → wpListIn (FR X.r) 0 X.P ops Q rest a w
/-- What holds where a piece of code has come to its end. -/
def HQ (X : Cx) (E : Env) (L : List Ch) (e : Exit) (Q : Post) : Prop := ∀ a w, X.st E L a w → Q e a w
section
variable {X : Cx} {E E' : Env} {L L' : List Ch} {c x y : Code} {Q : Post}
theorem St.eval {a : Act} {w : World} (h : X.st E L a w) {o : Operand} {v : Value} (ho : ev E o = some v) : a.eval o = v := by
  cases o with
  | tmp t => exact h.ag t v ho
  | const u => exact Option.some.inj ho
  | global g => exact Option.some.inj ho
  | func f => exact Option.some.inj ho
/-- What is known where an operation reads: a frame, pieces of memory. -/
structure Kn (X : Cx) (E : Env) (L : List Ch) (a : Act) (w : World) : Prop where
  ag : Agree E a.tmps
  ok : ∀ c ∈ L, c.ok w
  ro : ∀ c ∈ X.R, c.ok w
theorem St.kn {a : Act} {w : World} (h : X.st E L a w) : Kn X E L a w := ⟨h.ag, h.ow.ok, fun c hc => h.ro.ok h.ow.tch hc⟩
theorem Kn.eval {a : Act} {w : World} (h : Kn X E L a w) {o : Operand} {v : Value} (ho : ev E o = some v) : a.eval o = v := by
  cases o with
  | tmp t => exact h.ag t v ho
  | const u => exact Option.some.inj ho
  | global g => exact Option.some.inj ho
  | func f => exact Option.some.inj ho
theorem Kn.chunk {K : List Ch} {a : Act} {w : World} (s : Kn X E L a w) {c : Ch} (r : Rem L c K) : c.ok w := s.ok c (r.perm.mem_iff.2 (List.mem_cons_self ..))
/-- An operation that only reads gives v. -/
def VO (X : Cx) (E : Env) (L : List Ch) (o : Oper) (v : Value) : Prop := (∀ c, o.op ≠ .defer c) ∧ ∀ a w, Kn X E L a w → (execOp a.eval o).run X.P w = .ok (.value v) w
theorem H.seq (h : H X E L x (Exit.then (y.wpIn (FR X.r) 0 X.P Q) Q)) : H X E L (.seq x y) Q := fun a w s => wpIn_seq (h a w s)
theorem H.block {id : Nat} (h : H X E L x (Exit.inBlock id Q)) : H X E L (.block id x) Q := fun a w s => wpIn_block (h a w s)
theorem H.skip (h : HQ X E L .normal Q) : H X E L .skip Q := fun a w s => wpIn_skip (h a w s)
theorem H.label {l : Nat} (h : HQ X E L .normal Q) : H X E L (.label l) Q := fun a w s => wpIn_label (h a w s)
theorem H.ret (h : HQ X E L .ret Q) : H X E L .ret Q := fun a w s => wpIn_ret (h a w s)
theorem H.exit {id : Nat} (h : HQ X E L (.exit id) Q) : H X E L (.exit id) Q := fun a w s => wpIn_exit (h a w s)
theorem H.region {id : Nat} {l : List Oper} (h : HO X E L l.toArray l Q) : H X E L (.region id l.toArray false) Q := fun a w s => wpIn_region_lit (h a w s)
theorem HO.nil {ops : Array Oper} (h : HQ X E L .normal Q) : HO X E L ops [] Q := fun a w s => wpListIn_nil (h a w s)
/-- Code follows. -/
theorem HQ.next (h : H X E L y Q) : HQ X E L .normal (Exit.then (y.wpIn (FR X.r) 0 X.P Q) Q) := h
theorem HQ.of {e e' : Exit} {Q' : Post} (hq : Q e = Q' e') (h : HQ X E L e' Q') : HQ X E L e Q := fun a w s => by rw [hq]; exact h a w s
theorem HQ.code {e : Exit} {Q' : Post} (hq : Q e = y.wpIn (FR X.r) 0 X.P Q') (h : H X E L y Q') : HQ X E L e Q := fun a w s => by rw [hq]; exact h a w s
theorem H.condB {o : Operand} {b : Bool} (ho : ev E o = some (.bool b)) (ht : b = true → H X E L x Q) (hf : b = false → H X E L y Q) : H X E L (.cond o x y) Q :=
  fun a w s => wpIn_cond_split (s.eval ho) (fun hb => ht hb a w s) (fun hb => hf hb a w s)
theorem H.condT {o : Operand} {b : Bool} (ho : ev E o = some (.bool b)) (hb : b = true) (ht : H X E L x Q) : H X E L (.cond o x y) Q :=
  fun a w s => wpIn_cond_true ((s.eval ho).trans (by rw [hb])) (ht a w s)
theorem H.condF {o : Operand} {b : Bool} (ho : ev E o = some (.bool b)) (hb : b = false) (hf : H X E L y Q) : H X E L (.cond o x y) Q :=
  fun a w s => wpIn_cond_false ((s.eval ho).trans (by rw [hb])) (hf a w s)
theorem H.keep (k : Keep E E') (h : H X E' L c Q) : H X E L c Q := fun a w s => h a w ⟨s.ro, s.df, s.sz, k.agree s.ag, s.ow⟩
theorem HO.keep {ops : Array Oper} {rest : List Oper} (k : Keep E E') (h : HO X E' L ops rest Q) : HO X E L ops rest Q := fun a w s => h a w ⟨s.ro, s.df, s.sz, k.agree s.ag, s.ow⟩
theorem HQ.keep {e : Exit} (k : Keep E E') (h : HQ X E' L e Q) : HQ X E L e Q := fun a w s => h a w ⟨s.ro, s.df, s.sz, k.agree s.ag, s.ow⟩
theorem H.mem {K : List Ch} (r : Rems L L' K) (h : H X E L' c Q) : H X E L c Q := fun a w s => h a w ⟨s.ro, s.df, s.sz, s.ag, s.ow.rems r⟩
theorem HQ.mem {e : Exit} {K : List Ch} (r : Rems L L' K) (h : HQ X E L' e Q) : HQ X E L e Q := fun a w s => h a w ⟨s.ro, s.df, s.sz, s.ag, s.ow.rems r⟩
theorem H.mono {Q' : Post} (h : H X E L c Q') (hq : ∀ e a w, Q' e a w → Q e a w) : H X E L c Q := fun a w s => wpIn_mono (h a w s) hq
end
theorem wpIn_loop_ghost {F : Fence} {n : Nat} {P : Program} {Q : Post} {c : Code} {σ : Type} (μ : σ → Nat) (J : σ → Act → World → Prop) {a : Act} {w : World} (s0 : σ) (h0 : J s0 a w)
    (round : ∀ s a w, J s a w → c.wpIn F n P (Exit.then (fun a' w' => ∃ s', μ s' < μ s ∧ J s' a' w') Q) a w) : (Code.loop c).wpIn F n P Q a w := by
  intro b k cs hro hb hr
  have key : ∀ j s a w, μ s = j → J s a w →
      ∃ e a' w', Q e a' w' ∧ ArrivesIn (Machine.fenced P F) P (lone (b.atR a (.code c :: .inLoop c :: k)) cs w) b k cs e a' w' := by
    intro j
    induction j using Nat.strongRecOn with
    | _ j ih =>
      intro s a w hn hI
      obtain ⟨e, a₁, w₁, hq, harr⟩ := round s a w hI b (.inLoop c :: k) cs hro hb hr
      cases e with
      | normal =>
        obtain ⟨s', hlt, hI₁⟩ := hq
        obtain ⟨e₂, a₂, w₂, hq₂, harr₂⟩ := ih (μ s') (hn ▸ hlt) s' a₁ w₁ rfl hI₁
        exact ⟨e₂, a₂, w₂, hq₂, .of_steps (StepsIn.trans harr (.one (fenced_calm hb hr rfl) stepR_inLoop)) harr₂⟩
      | exit id => exact ⟨_, a₁, w₁, hq, .pass (x := .inLoop c) rfl (fun _ _ => .inl (by simp)) harr⟩
      | goto l => exact ⟨_, a₁, w₁, hq, .pass (x := .inLoop c) rfl (fun _ _ => .inl (by simp)) harr⟩
      | ret => exact ⟨_, a₁, w₁, hq, .pass (x := .inLoop c) rfl (fun _ _ => .inl (by simp)) harr⟩
      | panic ch => exact ⟨_, a₁, w₁, hq, .pass (x := .inLoop c) rfl (fun _ _ => .inl (by simp)) harr⟩
      | outgrown => exact ⟨_, a₁, w₁, hq, .pass (x := .inLoop c) rfl (fun _ _ => .inl (by simp)) harr⟩
  obtain ⟨e, a', w', hq, harr⟩ := key _ s0 a w rfl h0
  exact ⟨e, a', w', hq, .of_steps (.one (fenced_calm hb hr rfl) stepR_loop) harr⟩
section
variable {X : Cx} {E E' : Env} {L L' : List Ch} {c x y : Code} {Q : Post}
/-- A loop: its state is a value s of σ, which says what the frame and memory are. -/
theorem H.loop {σ : Type} (μ : σ → Nat) (FE : σ → Env) (FL : σ → List Ch) (I : σ → Prop) (s0 : σ) (h0 : I s0)
    (start : HQ X E L .normal (fun _ a w => X.st (FE s0) (FL s0) a w))
    (round : ∀ s, I s → H X (FE s) (FL s) x (Exit.then (fun a w => ∃ s', μ s' < μ s ∧ I s' ∧ X.st (FE s') (FL s') a w) Q)) : H X E L (.loop x) Q := by
  intro a w st
  refine wpIn_loop_ghost μ (fun s a w => I s ∧ X.st (FE s) (FL s) a w) s0 ⟨h0, start a w st⟩ ?_
  intro s a w ⟨hI, hs⟩
  exact round s hI a w hs
/-- The end of a round. -/
theorem HQ.round {σ : Type} {μ : σ → Nat} {FE : σ → Env} {FL : σ → List Ch} {I : σ → Prop} {M : Nat} (s' : σ) (hI : I s') (hm : μ s' < M)
    (h : HQ X E L .normal (fun _ a w => X.st (FE s') (FL s') a w)) : HQ X E L .normal (Exit.then (fun a w => ∃ s', μ s' < M ∧ I s' ∧ X.st (FE s') (FL s') a w) Q) :=
  fun a w st => ⟨s', hm, hI, h a w st⟩
/-- Where ways meet: what is known behind the first piece, s a value of σ. -/
theorem H.cut {σ : Type} (FE : σ → Env) (FL : σ → List Ch) (I : σ → Prop)
    (first : H X E L x (Exit.then (fun a w => ∃ s, I s ∧ X.st (FE s) (FL s) a w) Q)) (rest : ∀ s, I s → H X (FE s) (FL s) y Q) : H X E L (.seq x y) Q :=
  fun a w st => wpIn_seq (wpIn_mono (first a w st) fun e a w h => by
    cases e with
    | normal => obtain ⟨s, hI, hs⟩ := h; exact rest s hI a w hs
    | _ => exact h)
theorem HQ.cut {σ : Type} {FE : σ → Env} {FL : σ → List Ch} {I : σ → Prop} (s : σ) (hI : I s)
    (h : HQ X E L .normal (fun _ a w => X.st (FE s) (FL s) a w)) : HQ X E L .normal (Exit.then (fun a w => ∃ s, I s ∧ X.st (FE s) (FL s) a w) Q) :=
  fun a w st => ⟨s, hI, h a w st⟩
/-- What is known is more than what is asked. -/
theorem HQ.fits {K : List Ch} {e : Exit} (k : Keep E E') (r : Rems L L' K) : HQ X E L e (fun _ a w => X.st E' L' a w) :=
  fun a w s => ⟨s.ro, s.df, s.sz, k.agree s.ag, s.ow.rems r⟩
theorem HQ.free {e : Exit} (c : Ch) (hd : c.dom = []) (hok : ∀ w, c.ok w) (h : HQ X E (c :: L) e Q) : HQ X E L e Q :=
  fun a w s => h a w ⟨s.ro, s.df, s.sz, s.ag, s.ow.addFree c hd (hok w)⟩
theorem H.free (x : Code) (c : Ch) (hd : c.dom = []) (hok : ∀ w, c.ok w) (h : H X E (c :: L) x Q) : H X E L x Q :=
  fun a w s => h a w ⟨s.ro, s.df, s.sz, s.ag, s.ow.addFree c hd (hok w)⟩
end

/-! ### 4. A function -/
/-- f, called with these arguments where memory holds R (read only) and L, returns v, and then holds L' in the place of L. -/
def Tri (P : Program) (f : FuncId) (args : Array Value) (R L : List Ch) (post : Value → List Ch → Prop) : Prop :=
  ∀ w, (∀ c ∈ R, c.ok w ∧ ∀ b ∈ c.dom, b < w.heap.size ∧ b ∉ doms L) → (∀ c ∈ L, c.ok w) → (∀ b ∈ doms L, b < w.heap.size) → (doms L).Nodup →
    CallsIn (FR none) 0 P f args w fun e w' => ∃ v L', e = .returned v ∧ post v L' ∧ Own w (doms L) L' w'
theorem Tri.mono {P : Program} {f : FuncId} {args : Array Value} {R L : List Ch} {post post' : Value → List Ch → Prop} (h : Tri P f args R L post) (hp : ∀ v L', post v L' → post' v L') : Tri P f args R L post' :=
  fun w h1 h2 h3 h4 => (h w h1 h2 h3 h4).mono fun e w' ⟨v, L', he, hv, ho⟩ => ⟨v, L', he, hp v L' hv, ho⟩
/-- What a body owes at its end. -/
def Ends (w0 : World) (M : List Nat) (P : Program) (fn : Func) (post : Value → List Ch → Prop) : Post :=
  bodyPostM (FR none) 0 P fn fun e w' => ∃ v L', e = .returned v ∧ post v L' ∧ Own w0 M L' w'
theorem Tri.of {P : Program} {f : FuncId} {fn : Func} {c : Code} {args : Array Value} {R L : List Ch} {post : Value → List Ch → Prop} (hf : P.funcs[f]? = some fn) (hb : fn.body = some c) {E : Env}
    (hE : ∀ T : Array Value, T = args ++ Array.replicate (fn.ntmps - args.size) undef → Agree E T) (hn : args.size ≤ fn.ntmps)
    (h : ∀ w0, H ⟨none, P, w0, doms L, R, fn.ntmps, []⟩ E L c (Ends w0 (doms L) P fn post)) : Tri P f args R L post := by
  intro w h1 h2 h3 h4
  refine callsIn_of_wp_marks hf hb trivial ?_
  refine h w _ w ⟨?_, rfl, by simp; omega, hE _ rfl, ⟨Tch.refl _ _, h2, h3, fun b hb => .inr hb, h4⟩⟩
  exact fun c hc => ⟨(h1 c hc).1, (h1 c hc).2⟩
end Go.Proofs.Ytcmlghemanjaaaa.Sl
