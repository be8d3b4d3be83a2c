/- Ranges over functions: the iterator's contract in terms of what its reader does in a round; the reader's walk, round by round. Nothing about one program. No conditions. -/
import Derived.Test.YtcmlghemanjaaaaSlN
import Derived.RangeFuncRecord
set_option linter.unusedVariables false
set_option linter.unusedSimpArgs false
set_option linter.unusedSectionVars false
namespace Go.Proofs.Ytcmlghemanjaaaa.Sl
open Go Go.RowKit

/-! ### 1. Pieces laid together; a loop's record; the block for deferred calls -/
def packCh (L : List Ch) : Ch := ⟨doms L, fun w => ∀ c ∈ L, c.ok w, fun w w' h k c hc => c.loc w w' (fun b hb => h b (mem_doms hc hb)) (k c hc)⟩
theorem doms_pack (L K : List Ch) : doms (packCh L :: K) = doms (L ++ K) := by rw [doms_cons, doms_append]; rfl
theorem Own.unpack {w0 w : World} {M : List Nat} {L K : List Ch} (h : Own w0 M (packCh L :: K) w) : Own w0 M (L ++ K) w := by
  have e := doms_pack L K
  refine ⟨h.tch, fun c hc => ?_, ?_, ?_, ?_⟩
  · rcases List.mem_append.1 hc with hc | hc
    · exact h.ok (packCh L) (List.mem_cons_self ..) c hc
    · exact h.ok c (List.mem_cons_of_mem _ hc)
  · rw [← e]; exact h.lt
  · rw [← e]; exact h.own
  · rw [← e]; exact h.nd
theorem Own.pack {w0 w : World} {M : List Nat} {L K : List Ch} (h : Own w0 M (L ++ K) w) : Own w0 M (packCh L :: K) w := by
  have e := doms_pack L K
  refine ⟨h.tch, fun c hc => ?_, ?_, ?_, ?_⟩
  · rcases List.mem_cons.1 hc with rfl | hc
    · exact fun d hd => h.ok d (List.mem_append_left _ hd)
    · exact h.ok c (List.mem_append_right _ hc)
  · rw [e]; exact h.lt
  · rw [e]; exact h.own
  · rw [e]; exact h.nd
theorem Own.tail {w0 w : World} {M : List Nat} {c : Ch} {L : List Ch} (h : Own w0 M (c :: L) w) : Own w0 M L w :=
  (h.perm (K := L ++ [c]) (List.perm_append_comm (l₁ := [c]) (l₂ := L))).drop
def loopCh (l : Nat) (r : Loop) : Ch := ⟨[l], fun w => w.heap[l]? = some (.loop r), fun w w' h k => (h l (by simp)).trans k⟩
abbrev loopR (l : Nat) (r : Loop) : Ch := loopCh l { r with state := .ready, pending := none }
abbrev loopB (l : Nat) (r : Loop) : Ch := loopCh l { r with state := .busy, pending := none }
abbrev loopX (l : Nat) (r : Loop) (c : Code) : Ch := loopCh l { r with state := .done, pending := some c }
def defCh (D : Nat) : Ch := ⟨[D], fun w => w.heap[D]? = some (.deferred (some [])), fun w w' h k => (h D (by simp)).trans k⟩
abbrev mark (D : Nat) : Deferred := { target := .collected D, args := #[] }
theorem putObj_tch (w : World) (l : Nat) (o : Obj) : Tch [l] w (w.putObj l o) :=
  ⟨rfl, rfl, rfl, by simp, fun b _ hb => World.putObj_heap_other (fun e => hb (by simp [e]))⟩
theorem own_loop {w0 w : World} {M : List Nat} {L : List Ch} {l : Nat} {r : Loop} (h : Own w0 M (loopCh l r :: L) w) (r' : Loop) : Own w0 M (loopCh l r' :: L) (w.putObj l (.loop r')) := by
  have hl : l < w.heap.size := h.lt l (by simp [doms_cons, loopCh])
  exact h.step .here (putObj_tch w l _) (World.putObj_heap_same hl) (fun b hb => by
    simp [loopCh] at hb
    subst hb
    exact ⟨by simpa using hl, .inl (by simp [loopCh])⟩) (by simp [loopCh])

/-! ### 2. A call of yield -/
/-- yield of loop l, called with these arguments where memory holds R (read only) and L, hands back v, and memory then holds L' in the place of L. -/
def TriR (P : Program) (l : Nat) (args : Array Value) (R L : List Ch) (post : Value → List Ch → Prop) : Prop :=
  ∀ w, (∀ c ∈ R, c.ok w ∧ ∀ b ∈ c.dom, b < w.heap.size ∧ b ∉ doms L) → (∀ c ∈ L, c.ok w) → (∀ b ∈ doms L, b < w.heap.size) → (doms L).Nodup →
    ∃ f tmps assign body, (Instr.yield l args).run P w = .ok (.round l f tmps assign body) w ∧ RoundIn (FR none) 0 P l f tmps assign body w fun e w' => ∃ v L', e = .returned v ∧ post v L' ∧ Own w (doms L) L' w'
section
variable {X : Cx} {E : Env} {L K l R : List Ch} {ops : Array Oper} {rest : List Oper} {Q : Post} {d : Nat} {ty t e : TypeId} {pos : String} {after : Array Edge} {v : Value}
theorem HO.yield {dst : Option Nat} {lp : Nat} {fo : Operand} {xs : List Operand} {at_ : Array TypeId} {vs : List Value} {post : Value → List Ch → Prop} (hf : ev E fo = some (.func (.yield lp) #[] #[])) (hx : Args E xs vs) (hF : TriR X.P lp vs.toArray R l post) (hr : Rems L l K) (hR : Reads X.R K R) (hn : ∀ d, dst = some d → d < X.n)
    (h : ∀ v L', post v L' → HO X (match dst with | some d => (d, v) :: E | none => E) (L' ++ K) ops rest Q) :
    HO X E L ops (⟨dst, .call { callee := .value fo, args := xs.toArray, argTypes := at_ }, ty, pos, after, none⟩ :: rest) Q := by
  intro a w s
  refine wpListIn_plain rfl fun K' hK => ?_
  obtain ⟨h1, h2, h3, h4⟩ := call_own s hr hR
  obtain ⟨f, tmps, assign, body, hy, hround⟩ := hF w h1 h2 h3 h4
  refine ⟨fun _ _ => trivial, ?_⟩
  rw [Oper.semAt_eq _ _ _ (fun c => by simp)]
  have hrun : (execOp a.eval ⟨dst, .call { callee := .value fo, args := xs.toArray, argTypes := at_ }, ty, pos, after, none⟩).run X.P w = .ok (.round lp f tmps assign body) w := by
    simp only [execOp, resolve, Sem.run_bind, s.eval hf, Deferred.ofValue, Sem.run_pure, Result.andThen_ok, invoke, List.map_toArray, hx.eval s, List.append_toArray, Array.empty_append, Array.append_empty]
    exact hy
  rw [hrun]
  refine ⟨fun h => by simp at h, ?_⟩
  have hround' : RoundIn (FR X.r) 0 X.P lp f tmps assign body w _ := hround
  refine hround'.mono ?_
  rintro e w' ⟨v, L', rfl, hv, ho⟩
  refine hK _ _ (h v L' hv _ _ ?_)
  cases dst with
  | none => exact ⟨s.ro, s.df, s.sz, s.ag, s.ow.call hr ho⟩
  | some d => exact put_st s d v (hn d rfl) (s.ow.call hr ho)
end

/-! ### 3. An iterator -/
/-- What a reader of a function that ranges does in a round: it takes x in, and goes on (J), or leaves (Jx). -/
def Reader {α : Type} (P : Program) (l : Nat) {σ : Type} (C D : σ → Ch) (J Jx : List α → σ → Prop) (RY : List Ch) (encs : α → List Value) (xs : List α) : Prop :=
  ∀ pre x s, pre ++ [x] <+: xs → J pre s → TriR P l (encs x).toArray RY [C s] fun v M => (∃ s', v = .bool true ∧ M = [C s'] ∧ J (pre ++ [x]) s') ∨ ∃ s', v = .bool false ∧ M = [D s'] ∧ Jx (pre ++ [x]) s'
/-- f, bound to these values, calls yield with the elements of xs, one after the other, until yield says no. -/
def Iter {α : Type} (P : Program) (f : FuncId) (fv cv : List Value) (R : List Ch) (encs : α → List Value) (xs : List α) : Prop :=
  ∀ (l : Nat) (σ : Type) (C D : σ → Ch) (J Jx : List α → σ → Prop) (RY : List Ch) (s0 : σ), J [] s0 → Reader P l C D J Jx RY encs xs →
    Tri P f (fv ++ [Value.func (.yield l) #[] #[]] ++ cv).toArray (R ++ RY) [C s0] fun _ M => (∃ s', M = [C s'] ∧ J xs s') ∨ ∃ s' pre, pre <+: xs ∧ M = [D s'] ∧ Jx pre s'

/-! ### 4. The statement -/
def putAll : List (Nat × Value) → Env → Env
  | [], E => E
  | (t, v) :: r, E => putAll r ((t, v) :: E)
theorem putAll_agree : ∀ (l : List (Nat × Value)) (E : Env) (T : Array Value), (∀ x ∈ l, x.1 < T.size) → Agree E T → Agree (putAll l E) (l.foldl (fun t x => t.setIfInBounds x.1 x.2) T)
  | [], _, _, _, h => h
  | (t, v) :: r, E, T, hl, h => putAll_agree r _ _ (fun x hx => by simpa using hl x (List.mem_cons_of_mem _ hx)) (h.put t v (hl (t, v) (List.mem_cons_self ..)))
theorem size_fold : ∀ (l : List (Nat × Value)) (T : Array Value), (l.foldl (fun t x => t.setIfInBounds x.1 x.2) T).size = T.size
  | [], _ => rfl
  | (t, v) :: r, T => by rw [List.foldl_cons, size_fold r]; simp
/-- What a round owes at its end. -/
def REnds (w0 : World) (M : List Nat) (P : Program) (l : Nat) (post : Value → List Ch → Prop) : Post :=
  roundPost P l fun e w' => ∃ v L', e = .returned v ∧ post v L' ∧ Own w0 M L' w'
/-- What follows a round's assignments: the record is taken up, and the body runs. -/
def Begun (w0 : World) (M : List Nat) (P : Program) (l : Nat) (body : Code) (post : Value → List Ch → Prop) : Post :=
  Exit.then (fun a₁ w₁ => ∃ w₂, (Instr.beginRound l).run P w₁ = .ok () w₂ ∧ body.wpIn (FR (some l)) 0 P (REnds w0 M P l post) a₁ w₂) (fun _ _ _ => False)
section
variable {X : Cx} {E E' : Env} {L K L' : List Ch} {Q : Post} {l : Nat} {r : Loop} {body : Code} {post : Value → List Ch → Prop}
theorem HQ.begun {w0 : World} {M : List Nat} (hr : X.r = some l) (hrem : Rem L (loopR l r) K) (h : H X E (loopB l r :: K) body (REnds w0 M X.P l post)) : HQ X E L .normal (Begun w0 M X.P l body post) := by
  intro a w s
  have ho := s.ow.perm hrem.perm
  have hl : w.heap[l]? = some (.loop { r with state := .ready, pending := none }) := ho.ok _ (List.mem_cons_self ..)
  refine ⟨_, run_beginRound hl rfl, ?_⟩
  have h1 := h a (w.putObj l (.loop { r with state := .busy, pending := none })) ⟨s.ro, s.df, s.sz, s.ag, own_loop ho _⟩
  rw [hr] at h1
  exact h1
theorem HQ.round_next {w0 : World} {M : List Nat} {C : List Ch} (hw : X.w0 = w0) (hM : X.M = M) (hrem : Rems L (loopB l r :: C) K) (hp : post (.bool true) [packCh (loopR l r :: C)]) : HQ X E L .normal (REnds w0 M X.P l post) := by
  intro a w s
  subst hw hM
  have ho := s.ow.rems hrem
  have hl : w.heap[l]? = some (.loop { r with state := .busy, pending := none }) := ho.ok _ (List.mem_cons_self ..)
  refine ⟨_, _, run_endRound none hl, _, _, rfl, hp, ?_⟩
  have h1 := own_loop ho { r with state := .ready, pending := none }
  exact Own.pack (K := []) (by rw [List.append_nil]; exact h1)
theorem HQ.round_ret {w0 : World} {M : List Nat} {C : List Ch} (hw : X.w0 = w0) (hM : X.M = M) (hrem : Rems L (loopB l r :: C) K) (hp : post (.bool false) [packCh (loopX l r .ret :: C)]) : HQ X E L .ret (REnds w0 M X.P l post) := by
  intro a w s
  subst hw hM
  have ho := s.ow.rems hrem
  have hl : w.heap[l]? = some (.loop { r with state := .busy, pending := none }) := ho.ok _ (List.mem_cons_self ..)
  refine ⟨_, _, run_endRound (some .ret) hl, _, _, rfl, hp, ?_⟩
  have h1 := own_loop ho { r with state := .done, pending := some .ret }
  exact Own.pack (K := []) (by rw [List.append_nil]; exact h1)
theorem HQ.round_exit {w0 : World} {M : List Nat} {C : List Ch} {id : Nat} (hw : X.w0 = w0) (hM : X.M = M) (hrem : Rems L (loopB l r :: C) K) (hp : post (.bool false) [packCh (loopX l r (.exit id) :: C)]) : HQ X E L (.exit id) (REnds w0 M X.P l post) := by
  intro a w s
  subst hw hM
  have ho := s.ow.rems hrem
  have hl : w.heap[l]? = some (.loop { r with state := .busy, pending := none }) := ho.ok _ (List.mem_cons_self ..)
  refine ⟨_, _, run_endRound (some (.exit id)) hl, _, _, rfl, hp, ?_⟩
  have h1 := own_loop ho { r with state := .done, pending := some (.exit id) }
  exact Own.pack (K := []) (by rw [List.append_nil]; exact h1)
end
theorem Reads.weaken {R K l : List Ch} (d : Ch) (h : Reads R K l) : Reads R (d :: K) l := by
  induction h with
  | nil => exact .nil
  | ro h _ ih => exact .ro h ih
  | own h _ ih => exact .own (List.mem_cons_of_mem _ h) ih
  | row h _ ih => exact .row (List.mem_cons_of_mem _ h) ih
  | none _ ih => exact .none ih
theorem Reads.append {R K l m : List Ch} (h : Reads R K l) (h' : Reads R K m) : Reads R K (l ++ m) := by
  induction h with
  | nil => exact h'
  | ro h _ ih => exact .ro h ih
  | own h _ ih => exact .own h ih
  | row h _ ih => exact .row h ih
  | none _ ih => exact .none ih
/-- The surroundings behind a range over a function: one mark more. -/
abbrev Cx.marked (X : Cx) (D : Nat) : Cx := { X with D := mark D :: X.D }
/-- The surroundings of a round. -/
abbrev Cx.rnd (X : Cx) (l : Nat) (w0 : World) (M : List Nat) (RY : List Ch) : Cx := ⟨some l, X.P, w0, M, RY, X.n, []⟩
/-- for .. := range g { .. } -/
theorem H.rangeFunc {X : Cx} {E : Env} {L K R RY : List Ch} {Q : Post} {g : Operand} {ps : Array Tmp} {assign body : Code} {f : FuncId} {fv cv : List Value} {α σ : Type} {encs : α → List Value} {xs : List α}
    (CL CX : σ → List Ch) (cx : σ → Code) (J Jx : List α → σ → Prop) (s0 : σ)
    (hr : X.r = none) (hc : Callable X.P f) (hg : ev E g = some (.func (.func f) fv.toArray cv.toArray)) (hit : Iter X.P f fv cv R encs xs) (hps : ∀ x, (encs x).length = ps.size) (hpn : ps.toList.all (fun t => Nat.ble (t + 1) X.n) = true)
    (hrem : Rems L (CL s0) K) (hR : Reads X.R K R) (hRY : Reads X.R K RY) (h0 : J [] s0)
    (hround : ∀ l r pre x s w0 M, pre ++ [x] <+: xs → J pre s →
      H (X.rnd l w0 M RY) (putAll (ps.toList.zip (encs x)) E) (loopR l r :: CL s) assign
        (Begun w0 M X.P l body fun v M => (∃ s', v = .bool true ∧ M = [packCh (loopR l r :: CL s')] ∧ J (pre ++ [x]) s') ∨ ∃ s', v = .bool false ∧ M = [packCh (loopX l r (cx s') :: CX s')] ∧ Jx (pre ++ [x]) s'))
    (hdone : ∀ D s, J xs s → HQ (X.marked D) E (CL s ++ (defCh D :: K)) .normal Q)
    (hstop : ∀ D s pre, pre <+: xs → Jx pre s → H (X.marked D) E (CX s ++ (defCh D :: K)) (cx s) Q) : H X E L (.rangeFunc g ps assign body) Q := by
  intro a w s
  refine wpIn_rangeFunc ?_
  intro fn _
  obtain ⟨rec, hrec⟩ : ∃ rec : Loop, rec = { state := .ready, pending := none, fn, tmps := a.tmps, params := ps, assign, body, defers := w.heap.size } := ⟨_, rfl⟩
  have ho0 := (s.ow.perm hrem.perm).new (.deferred (some [])) (defCh w.heap.size) rfl (World.alloc_heap_new w _)
  have ho1 := ho0.new (.loop rec) (loopR (w.heap.size + 1) rec) (by simp [loopCh]) (by
    have h1 := World.alloc_heap_new (w.alloc (.deferred (some []))) (.loop rec)
    rw [World.size_alloc] at h1
    show _ = some (Obj.loop { rec with state := .ready, pending := none })
    rw [h1, hrec])
  have e1 : (loopR (w.heap.size + 1) rec :: defCh w.heap.size :: (CL s0 ++ K)).Perm ((loopR (w.heap.size + 1) rec :: CL s0) ++ (defCh w.heap.size :: K)) :=
    (List.perm_middle.symm).cons _
  have ho2 := Own.pack (ho1.perm e1)
  refine ⟨w.heap.size + 1, [mark w.heap.size], (w.alloc (.deferred (some []))).alloc (.loop rec), { target := .fn (.func f) cv.toArray, args := (fv ++ [Value.func (.yield (w.heap.size + 1)) #[] #[]]).toArray }, (w.alloc (.deferred (some []))).alloc (.loop rec), f,
    (fv ++ [Value.func (.yield (w.heap.size + 1)) #[] #[]] ++ cv).toArray, (w.alloc (.deferred (some []))).alloc (.loop rec), ?_, ?_, fun _ _ => trivial, ?_, fun h => by simp at h, ?_⟩
  · show (Instr.enterLoop fn a.tmps ps assign body X.r).run X.P w = _
    rw [hr, hrec]
    exact run_enterLoop_outer _ _ _ _ _
  · simp only [resolve, rangeCall, s.eval hg, Deferred.ofValue, Sem.run_pure, List.map_toArray, List.map_cons, List.map_nil, List.append_toArray]
    rfl
  · simp only [invoke, List.append_toArray]
    exact run_call hc _ _
  have s1 : X.st E (packCh (loopR (w.heap.size + 1) rec :: CL s0) :: defCh w.heap.size :: K) a ((w.alloc (.deferred (some []))).alloc (.loop rec)) := ⟨s.ro, s.df, s.sz, s.ag, ho2⟩
  have hrem1 : Rems (packCh (loopR (w.heap.size + 1) rec :: CL s0) :: defCh w.heap.size :: K) [packCh (loopR (w.heap.size + 1) rec :: CL s0)] (defCh w.heap.size :: K) := .cons .here .nil
  obtain ⟨h1, h2, h3, h4⟩ := call_own s1 hrem1 ((hR.append hRY).weaken (defCh w.heap.size))
  have hcall := hit (w.heap.size + 1) σ (fun s => packCh (loopR (w.heap.size + 1) rec :: CL s)) (fun s => packCh (loopX (w.heap.size + 1) rec (cx s) :: CX s)) J Jx RY s0 h0 ?_ _ h1 h2 h3 h4
  · have hcall' : CallsIn (FR X.r) 0 X.P f _ ((w.alloc (.deferred (some []))).alloc (.loop rec)) _ := hcall
    refine hcall'.mono ?_
    rintro e w3 ⟨v, L', rfl, hv, hown⟩
    have ho3 := s1.ow.call hrem1 hown
    have sX : ∀ M' w4, Own X.w0 X.M M' w4 → (X.marked w.heap.size).st E M' { a with defers := [mark w.heap.size] ++ a.defers } w4 := fun M' w4 ho =>
      ⟨s.ro, by show [mark w.heap.size] ++ a.defers = mark w.heap.size :: X.D; rw [s.df]; rfl, s.sz, s.ag, ho⟩
    rcases hv with ⟨s', rfl, hJ⟩ | ⟨s', pre, hpre, rfl, hJ⟩
    · have ho4 := Own.unpack (L := loopR (w.heap.size + 1) rec :: CL s') ho3
      have hl : w3.heap[w.heap.size + 1]? = some (.loop { rec with state := .ready, pending := none }) := ho4.ok _ (List.mem_cons_self ..)
      refine ⟨none, _, run_endLoop hl (by simp), ?_⟩
      exact hdone _ _ hJ _ _ (sX _ _ (own_loop ho4 _).tail)
    · have ho4 := Own.unpack (L := loopX (w.heap.size + 1) rec (cx s') :: CX s') ho3
      have hl : w3.heap[w.heap.size + 1]? = some (.loop { rec with state := .done, pending := some (cx s') }) := ho4.ok _ (List.mem_cons_self ..)
      refine ⟨some (cx s'), _, run_endLoop hl (by simp), ?_⟩
      exact hstop _ _ _ hpre hJ _ _ (sX _ _ (own_loop ho4 _).tail)
  · intro pre x s2 hpre hJ w2 g1 g2 g3 g4
    have hl : w2.heap[w.heap.size + 1]? = some (.loop { rec with state := .ready, pending := none }) := g2 (packCh (loopR (w.heap.size + 1) rec :: CL s2)) (List.mem_cons_self ..) (loopR (w.heap.size + 1) rec) (List.mem_cons_self ..)
    have hpar : rec.params = ps := by rw [hrec]
    refine ⟨_, _, _, _, run_yield hl (by simp [hps, hpar]), ?_⟩
    have hrd := hround (w.heap.size + 1) rec pre x s2 w2 (doms [packCh (loopR (w.heap.size + 1) rec :: CL s2)]) hpre hJ
    have hfold : (ps.zip (encs x).toArray).foldl (fun tmps (t, a) => tmps.setIfInBounds t a) a.tmps = (ps.toList.zip (encs x)).foldl (fun t x => t.setIfInBounds x.1 x.2) a.tmps := by
      rw [← Array.foldl_toList, Array.toList_zip]
    have hsz : ∀ y ∈ ps.toList.zip (encs x), y.1 < a.tmps.size := fun y hy => by
      rw [s.sz]
      have := List.all_eq_true.1 hpn y.1 (List.of_mem_zip hy).1
      exact Nat.le_of_ble_eq_true this
    have hro : RoundIn (FR none) 0 X.P (w.heap.size + 1) fn ((ps.toList.zip (encs x)).foldl (fun t x => t.setIfInBounds x.1 x.2) a.tmps) assign body w2 _ :=
      roundIn_of_wpIn (F := FR none) trivial (hrd { tmps := (ps.toList.zip (encs x)).foldl (fun t x => t.setIfInBounds x.1 x.2) a.tmps, defers := [] } w2
        ⟨fun c hc => ⟨(g1 c hc).1, (g1 c hc).2⟩, rfl, (size_fold _ _).trans s.sz, putAll_agree _ _ _ hsz s.ag, by
          have := Own.unpack (K := []) (L := loopR (w.heap.size + 1) rec :: CL s2) (M := doms [packCh (loopR (w.heap.size + 1) rec :: CL s2)]) (w0 := w2) (w := w2) ⟨Tch.refl _ _, g2, g3, fun b hb => .inr hb, g4⟩
          rwa [List.append_nil] at this⟩)
    rw [hrec]
    show RoundIn (FR none) 0 X.P (w.heap.size + 1) fn ((ps.zip (encs x).toArray).foldl (fun tmps (t, a) => tmps.setIfInBounds t a) a.tmps) assign body w2 _
    rw [hfold]
    rw [hrec] at hro
    exact hro

/-! ### 5. A function that holds such a statement, at its end -/
theorem HQ.end_d {X : Cx} {E : Env} {L : List Ch} {fn : Func} {post : Value → List Ch → Prop} {e : Exit} {w0 : World} {M : List Nat} {P : Program} {D : Nat} {K : List Ch} (hX : X.D = [mark D]) (hd : Rem L (defCh D) K) (hw : X.w0 = w0) (hM : X.M = M) (hP : X.P = P) (he : e = .ret ∨ e = .normal) (vv : Value) (hres : ∀ a w, X.st E K a w → (results fn a.tmps).run X.P w = .ok vv w) (hk : ∃ L' J, Rems K L' J ∧ post vv L') : HQ X E L e (Ends w0 M P fn post) := by
  intro a w s
  obtain ⟨L', J, hk, hp⟩ := hk
  subst hw hM hP
  have ho := s.ow.perm hd.perm
  have hD : w.heap[D]? = some (.deferred (some [])) := ho.ok _ (List.mem_cons_self ..)
  have hlt : D < w.heap.size := ho.lt D (by simp [doms_cons, defCh])
  have ho2 : Own X.w0 X.M K (w.putObj D (.deferred none)) := by
    refine Own.tail (c := ⟨[D], fun w => True, fun _ _ _ _ => trivial⟩) ?_
    exact ho.step .here (putObj_tch w D _) trivial (fun b hb => by
      simp at hb
      subst hb
      exact ⟨by simpa using hlt, .inl (by simp [defCh])⟩) (by simp)
  have s2 : X.st E K a (w.putObj D (.deferred none)) := ⟨s.ro, s.df, s.sz, s.ag, ho2⟩
  have key : LeavesInM (FR none) 0 X.P fn a.tmps (fun e w' => ∃ v L', e = .returned v ∧ post v L' ∧ Own X.w0 X.M L' w') a.defers .returning w := by
    rw [s.df, hX]
    exact ⟨by simp, .inl ⟨D, _, rfl, run_takeDeferred hD, leave_nil (hres a _ s2) ⟨vv, L', rfl, hp, s2.ow.rems hk⟩⟩⟩
  rcases he with rfl | rfl <;> exact key
end Go.Proofs.Ytcmlghemanjaaaa.Sl
