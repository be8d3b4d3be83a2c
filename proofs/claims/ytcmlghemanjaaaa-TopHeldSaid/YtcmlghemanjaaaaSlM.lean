/- Steps of a walk: maps. A map is known by the list of its entries, in the order in which they came. Nothing about one program. No conditions. -/
import Derived.Test.YtcmlghemanjaaaaSlH
import Derived.Maps.Keyed
set_option linter.unusedVariables false
set_option linter.unusedSimpArgs false
set_option linter.unusedSectionVars false
namespace Go.Proofs.Ytcmlghemanjaaaa.Sl
open Go Go.RowKit Go.Maps

/-! ### 1. Lists of entries -/
section
variable {κ ε : Type} [DecidableEq κ]
def mget (m : List (κ × ε)) (k : κ) : Option ε := (m.find? fun p => decide (p.1 = k)).map (·.2)
def mput (m : List (κ × ε)) (k : κ) (v : ε) : List (κ × ε) := if (mget m k).isSome = true then m.map (fun p => if p.1 = k then (k, v) else p) else m ++ [(k, v)]
theorem mget_nil (k : κ) : mget ([] : List (κ × ε)) k = none := rfl
theorem mget_cons (p : κ × ε) (m : List (κ × ε)) (k : κ) : mget (p :: m) k = if p.1 = k then some p.2 else mget m k := by
  unfold mget
  by_cases h : p.1 = k <;> simp [List.find?_cons, h]
theorem mget_none {m : List (κ × ε)} {k : κ} (h : ∀ p ∈ m, p.1 ≠ k) : mget m k = none := by
  induction m with
  | nil => rfl
  | cons p m ih => rw [mget_cons, if_neg (h p (by simp))]; exact ih fun q hq => h q (by simp [hq])
theorem mget_at {m : List (κ × ε)} {k : κ} (hn : (m.map (·.1)).Nodup) {j : Nat} {p : κ × ε} (hj : m[j]? = some p) (hk : p.1 = k) : mget m k = some p.2 := by
  induction m generalizing j with
  | nil => simp at hj
  | cons q m ih =>
    rw [mget_cons]
    cases j with
    | zero => simp at hj; subst hj; rw [if_pos hk]
    | succ j =>
      simp at hj hn
      have hq : q.1 ≠ k := by
        intro e
        have := hn.1 p.2
        rw [e, ← hk] at this
        exact this (List.mem_of_getElem? hj)
      rw [if_neg hq]
      exact ih hn.2 hj
theorem mget_some_mem {m : List (κ × ε)} {k : κ} {v : ε} (h : mget m k = some v) : (k, v) ∈ m := by
  induction m with
  | nil => simp [mget] at h
  | cons p m ih =>
    rw [mget_cons] at h
    split at h
    · rename_i e; injection h with h; rw [← e, ← h]; simp
    · exact List.mem_cons_of_mem _ (ih h)
theorem mget_isNone {m : List (κ × ε)} {k : κ} (h : ¬ (mget m k).isSome = true) : ∀ p ∈ m, p.1 ≠ k := by
  intro p hp e
  apply h
  induction m with
  | nil => cases hp
  | cons q m ih =>
    rw [mget_cons]
    split
    · rfl
    · rename_i hq
      rcases List.mem_cons.1 hp with rfl | hp
      · exact absurd e hq
      · rw [mget_cons, if_neg hq] at h; exact ih h hp
theorem mput_keys {m : List (κ × ε)} {k : κ} {v : ε} : (mput m k v).map (·.1) = if (mget m k).isSome = true then m.map (·.1) else m.map (·.1) ++ [k] := by
  unfold mput
  split
  · rw [List.map_map]
    apply List.map_congr_left
    intro p _
    simp only [Function.comp]
    split
    · rename_i h; exact h.symm
    · rfl
  · simp
theorem mput_nodup {m : List (κ × ε)} {k : κ} {v : ε} (h : (m.map (·.1)).Nodup) : ((mput m k v).map (·.1)).Nodup := by
  rw [mput_keys]
  split
  · exact h
  · rename_i hn
    rw [List.nodup_append]
    refine ⟨h, by simp, ?_⟩
    intro a ha b hb e
    simp at hb
    subst hb
    obtain ⟨p, hp, rfl⟩ := List.mem_map.1 ha
    exact mget_isNone hn p hp e
theorem mget_map {m : List (κ × ε)} {k k' : κ} {v : ε} : mget (m.map (fun p => if p.1 = k then (k, v) else p)) k' = if k = k' then (mget m k).map (fun _ => v) else mget m k' := by
  induction m with
  | nil => simp [mget]
  | cons p m ih =>
    rw [List.map_cons, mget_cons, mget_cons, mget_cons, ih]
    by_cases e : p.1 = k
    · rw [if_pos e, if_pos e]
      by_cases e2 : k = k'
      · rw [if_pos e2, if_pos e2]; rfl
      · rw [if_neg e2, if_neg e2, if_neg (fun h => e2 (e.symm.trans h)), if_neg e2]
    · rw [if_neg e, if_neg e]
      by_cases e2 : k = k'
      · subst e2; rw [if_neg e, if_pos rfl, if_pos rfl]
      · rw [if_neg e2, if_neg e2]
theorem mget_append {m : List (κ × ε)} {k k' : κ} {v : ε} : mget (m ++ [(k, v)]) k' = match mget m k' with | some u => some u | none => if k = k' then some v else none := by
  induction m with
  | nil => rw [List.nil_append, mget_cons, mget_nil]
  | cons p m ih =>
    rw [List.cons_append, mget_cons, mget_cons, ih]
    split <;> rfl
theorem mget_mput {m : List (κ × ε)} {k k' : κ} {v : ε} : mget (mput m k v) k' = if k = k' then some v else mget m k' := by
  unfold mput
  by_cases hs : (mget m k).isSome = true
  · rw [if_pos hs, mget_map]
    split
    · obtain ⟨u, hu⟩ := Option.isSome_iff_exists.1 hs; rw [hu]; rfl
    · rfl
  · rw [if_neg hs, mget_append]
    by_cases e : k = k'
    · subst e
      have : mget m k = none := by
        cases h : mget m k with
        | none => rfl
        | some u => rw [h] at hs; exact absurd rfl hs
      rw [this]
    · rw [if_neg e]
      cases h : mget m k' with
      | none => simp [e]
      | some u => simp [e]
end

/-! ### 2. A map in memory -/
/-- How keys of a Go type stand for plain things. -/
structure Keyer (P : Program) (kt : TypeId) (κ : Type) where
  f : κ → Value
  ok : κ → Prop
  keyed : Keyed P kt
  reads : ∀ x, ok x → ∃ l, keyOf P kt (f x) = some l
  inj : ∀ x y, f x = f y → x = y
/-- The block holds a map of just these entries. -/
def MapIs {P : Program} {kt : TypeId} {κ ε : Type} (K : Keyer P kt κ) (vf : ε → Value) (w : World) (b : Nat) (m : List (κ × ε)) (st : Option (κ × Nat)) : Prop :=
  ∃ es clock, w.heap[b]? = some (.map es clock) ∧ es.toList.map (fun e => (e.key, e.val)) = m.map (fun p => (K.f p.1, vf p.2)) ∧ (m.map (·.1)).Nodup ∧ (∀ p ∈ m, K.ok p.1) ∧ (es.toList.map (·.born)).Nodup ∧ (∀ e ∈ es.toList, e.born < clock) ∧
    ∀ k s, st = some (k, s) → ∃ e ∈ es.toList, e.key = K.f k ∧ e.born = s
def mapCh {P : Program} {kt : TypeId} {κ ε : Type} (K : Keyer P kt κ) (vf : ε → Value) (b : Nat) (m : List (κ × ε)) (st : Option (κ × Nat)) : Ch :=
  ⟨[b], fun w => MapIs K vf w b m st, fun w w' h k => by
    obtain ⟨es, clock, h1, h2⟩ := k
    exact ⟨es, clock, by rw [h b (by simp)]; exact h1, h2⟩⟩
/-- A map, at rest. -/
abbrev mapE {P : Program} {kt : TypeId} {κ ε : Type} (K : Keyer P kt κ) (vf : ε → Value) (b : Nat) (m : List (κ × ε)) : Ch := mapCh K vf b m none
section
variable {P : Program} {kt : TypeId} {κ ε : Type} [DecidableEq κ] {K : Keyer P kt κ} {vf : ε → Value} {w : World} {b : Nat} {m : List (κ × ε)} {st : Option (κ × Nat)}
theorem MapIs.find (h : MapIs K vf w b m st) (k : κ) (hk : K.ok k) {es : Array MapEntry} {clock : Nat} (hb : w.heap[b]? = some (.map es clock)) :
    ((Instr.findKey kt (K.f k) es.toList).run P w = .ok none w ∧ mget m k = none) ∨ ∃ j e v, (Instr.findKey kt (K.f k) es.toList).run P w = .ok (some (j, e.val)) w ∧ es.toList[j]? = some e ∧ e.key = K.f k ∧ e.val = vf v ∧ mget m k = some v := by
  obtain ⟨es', clock', hb', hm, hnd, hok, hbn, hbl, _⟩ := h
  rw [hb] at hb'
  cases hb'
  obtain ⟨l, hl⟩ := K.reads k hk
  have at_ : ∀ (j : Nat) (e : MapEntry), es.toList[j]? = some e → ∃ p, m[j]? = some p ∧ e.key = K.f p.1 ∧ e.val = vf p.2 := by
    intro j e he
    have h1 : (es.toList.map (fun e => (e.key, e.val)))[j]? = some (e.key, e.val) := by rw [List.getElem?_map, he]; rfl
    rw [hm, List.getElem?_map, Option.map_eq_some_iff] at h1
    obtain ⟨p, hp, hpe⟩ := h1
    simp only [Prod.mk.injEq] at hpe
    exact ⟨p, hp, hpe.1.symm, hpe.2.symm⟩
  rcases K.keyed.find w hl es.toList (fun e he => by
    obtain ⟨j, hj⟩ := List.mem_iff_getElem?.1 he
    obtain ⟨p, hp, hk1, _⟩ := at_ j e hj
    rw [hk1]
    exact K.reads _ (hok p (List.mem_of_getElem? hp))) with ⟨h1, h2⟩ | ⟨j, e, h1, h2, h3⟩
  · refine .inl ⟨h1, mget_none fun p hp e => ?_⟩
    obtain ⟨j, hj⟩ := List.mem_iff_getElem?.1 hp
    have h4 : (m.map (fun p => (K.f p.1, vf p.2)))[j]? = some (K.f p.1, vf p.2) := by rw [List.getElem?_map, hj]; rfl
    rw [← hm, List.getElem?_map, Option.map_eq_some_iff] at h4
    obtain ⟨e', he', hpe⟩ := h4
    simp only [Prod.mk.injEq] at hpe
    exact h2 e' (List.mem_of_getElem? he') (by rw [hpe.1, e])
  · obtain ⟨p, hp, hk1, hv1⟩ := at_ j e h2
    have hpk : p.1 = k := K.inj _ _ (hk1.symm.trans h3)
    exact .inr ⟨j, e, p.2, h1, h2, h3, hv1, mget_at hnd hp hpk⟩
theorem mput_same {m : List (κ × ε)} {k : κ} {v : ε} (hn : (m.map (·.1)).Nodup) (h : mget m k = some v) : mput m k v = m := by
  unfold mput
  rw [h, if_pos (show (some v).isSome = true from rfl)]
  conv => rhs; rw [← List.map_id m]
  apply List.map_congr_left
  intro p hp
  split
  · rename_i e
    obtain ⟨j, hj⟩ := List.mem_iff_getElem?.1 hp
    have := mget_at hn hj e
    rw [h] at this
    injection this with this
    rw [← e, this]; rfl
  · rfl
/-- An entry is turned. -/
theorem MapIs.mod (h : MapIs K vf w b m st) {w' : World} {es : Array MapEntry} {clock j : Nat} {en : MapEntry} {f : MapEntry → MapEntry} {k : κ} {v : ε} (hb : w.heap[b]? = some (.map es clock)) (hw : w'.heap[b]? = some (.map (es.modify j f) clock))
    (hj : es.toList[j]? = some en) (hek : en.key = K.f k) (f1 : (f en).key = K.f k) (f2 : (f en).val = vf v) (f3 : (f en).born = en.born) : MapIs K vf w' b (mput m k v) (some (k, en.born)) := by
  obtain ⟨es', clock', hb', hm, hnd, hok, hbn, hbl, _⟩ := h
  rw [hb] at hb'
  cases hb'
  have hmj : ∃ p, m[j]? = some p ∧ p.1 = k := by
    have h1 : (es.toList.map (fun e => (e.key, e.val)))[j]? = some (en.key, en.val) := by rw [List.getElem?_map, hj]; rfl
    rw [hm, List.getElem?_map, Option.map_eq_some_iff] at h1
    obtain ⟨p, hp, hpe⟩ := h1
    simp only [Prod.mk.injEq] at hpe
    exact ⟨p, hp, K.inj _ _ (hpe.1.trans hek)⟩
  obtain ⟨p, hp, hpk⟩ := hmj
  have hsome : (mget m k).isSome = true := by rw [mget_at hnd hp hpk]; rfl
  have hat : ∀ i, (es.modify j f).toList[i]? = if j = i then some (f en) else es.toList[i]? := by
    intro i
    rw [Array.toList_modify, List.getElem?_modify]
    by_cases e : j = i
    · subst e; simp [hj]
    · simp [e]
  have hborn : (es.modify j f).toList.map (·.born) = es.toList.map (·.born) := by
    apply List.ext_getElem?
    intro i
    rw [List.getElem?_map, List.getElem?_map, hat]
    split
    · rename_i e; subst e; rw [hj]; simp [f3]
    · rfl
  refine ⟨es.modify j f, clock, hw, ?_, mput_nodup hnd, ?_, by rw [hborn]; exact hbn, ?_, ?_⟩
  · apply List.ext_getElem?
    intro i
    rw [List.getElem?_map, List.getElem?_map, hat]
    unfold mput
    rw [if_pos hsome, List.getElem?_map]
    by_cases e : j = i
    · subst e
      rw [if_pos rfl, hp]
      simp [hpk, f1, f2]
    · rw [if_neg e]
      have h1 : (es.toList.map (fun e => (e.key, e.val)))[i]? = (m.map (fun p => (K.f p.1, vf p.2)))[i]? := by rw [hm]
      rw [List.getElem?_map, List.getElem?_map] at h1
      rw [h1]
      cases hq : m[i]? with
      | none => rfl
      | some q =>
        have hqk : q.1 ≠ k := by
          intro e2
          apply e
          have hi1 : (m.map (·.1))[j]? = some k := by rw [List.getElem?_map, hp, ← hpk]; rfl
          have hi2 : (m.map (·.1))[i]? = some k := by rw [List.getElem?_map, hq, ← e2]; rfl
          have hlt : j < (m.map (·.1)).length := (List.getElem?_eq_some_iff.1 hi1).1
          exact (List.getElem?_inj hlt hnd).1 (hi1.trans hi2.symm)
        simp [hqk]
  · intro q hq
    unfold mput at hq
    rw [if_pos hsome] at hq
    obtain ⟨q', hq', rfl⟩ := List.mem_map.1 hq
    split
    · rename_i e; rw [← e]; exact hok q' hq'
    · exact hok q' hq'
  · intro e he
    have : e.born ∈ (es.modify j f).toList.map (·.born) := List.mem_map_of_mem he
    rw [hborn] at this
    obtain ⟨e', he', hee⟩ := List.mem_map.1 this
    rw [← hee]; exact hbl e' he'
  · intro k' s hks
    cases hks
    exact ⟨f en, List.mem_of_getElem? (i := j) (by rw [hat, if_pos rfl]), f1, f3⟩
/-- An entry is laid behind the others. -/
theorem MapIs.push (h : MapIs K vf w b m st) {w' : World} {es : Array MapEntry} {clock : Nat} {k : κ} {v : ε} (hb : w.heap[b]? = some (.map es clock)) (hw : w'.heap[b]? = some (.map (es.push { key := K.f k, val := vf v, born := clock }) (clock + 1)))
    (hk : K.ok k) (hg : mget m k = none) : MapIs K vf w' b (mput m k v) (some (k, clock)) := by
  obtain ⟨es', clock', hb', hm, hnd, hok, hbn, hbl, _⟩ := h
  rw [hb] at hb'
  cases hb'
  have e : mput m k v = m ++ [(k, v)] := by unfold mput; rw [hg]; rfl
  refine ⟨_, _, hw, ?_, mput_nodup hnd, ?_, ?_, ?_, ?_⟩
  · rw [e]; simp [hm]
  · rw [e]; intro p hp; rcases List.mem_append.1 hp with hp | hp
    · exact hok p hp
    · simp at hp; subst hp; exact hk
  · simp only [Array.toList_push, List.map_append, List.map_cons, List.map_nil]
    rw [List.nodup_append]
    refine ⟨hbn, by simp, ?_⟩
    intro x hx y hy e
    simp at hy
    obtain ⟨e', he', rfl⟩ := List.mem_map.1 hx
    have := hbl e' he'
    omega
  · intro e' he'
    simp only [Array.toList_push] at he'
    rcases List.mem_append.1 he' with he' | he'
    · have := hbl e' he'; omega
    · simp at he'; subst he'; simp
  · intro k' s hks
    cases hks
    exact ⟨⟨K.f k, vf v, clock⟩, by simp, rfl, rfl⟩
theorem MapIs.rest (h : MapIs K vf w b m st) : MapIs K vf w b m none := by
  obtain ⟨es, clock, h1, h2, h3, h4, h5, h6, _⟩ := h
  exact ⟨es, clock, h1, h2, h3, h4, h5, h6, fun k s e => by cases e⟩
theorem run_getMap {P : Program} {w : World} {b : Nat} {es : Array MapEntry} {clock : Nat} (hb : w.heap[b]? = some (.map es clock)) : (getObj b).run P w = .ok (.map es clock) w := by simp [getObj, Sem.run, hb]
theorem run_setMap {P : Program} {w : World} {b : Nat} {es : Array MapEntry} {clock : Nat} (hb : w.heap[b]? = some (.map es clock)) (o : Obj) : (setObj b o).run P w = .ok () { w with heap := w.heap.setIfInBounds b o } := by simp [setObj, Sem.run, hb]
/-- Where a map is known from. -/
def HasM (X : Cx) (L : List Ch) {kt : TypeId} {κ ε : Type} (K : Keyer X.P kt κ) (vf : ε → Value) (b : Nat) (m : List (κ × ε)) : Prop := ∀ w, (∀ c ∈ L, c.ok w) → (∀ c ∈ X.R, c.ok w) → ∃ st, MapIs K vf w b m st
theorem HasM.own {X : Cx} {L J : List Ch} {K : Keyer X.P kt κ} (r : Rem L (mapCh K vf b m st) J) : HasM X L K vf b m := fun w ok _ => ⟨st, ok _ (r.perm.mem_iff.2 (List.mem_cons_self ..))⟩
theorem HasM.ro {X : Cx} {L : List Ch} {K : Keyer X.P kt κ} (h : mapCh K vf b m st ∈ X.R) : HasM X L K vf b m := fun w _ ro => ⟨st, ro _ h⟩
end
section
variable {X : Cx} {E : Env} {L J : List Ch} {ops : Array Oper} {rest : List Oper} {Q : Post} {d : Nat} {ty t kt e : TypeId} {pos : String} {after : Array Edge} {g : Option (Nat × Bool)} {x y z : Operand} {κ ε : Type} [DecidableEq κ] {K : Keyer X.P kt κ} {vf : ε → Value} {b : Nat} {m : List (κ × ε)} {k : κ}
/-- m[k], the zero value where it is not. -/
theorem V.lookup {v0 : ε} {kc bytes : Nat} (ht : X.P.underlying t = some (.map kt e)) (hz : TyZ X.P e (vf v0) kc bytes) (hx : ev E x = some (.map (some b))) (hy : ev E y = some (K.f k)) (hk : K.ok k) (hm : HasM X L K vf b m) :
    VO X E L ⟨some d, .lookup t x y false, ty, pos, after, g⟩ (vf ((mget m k).getD v0)) :=
  ⟨fun c => by simp, fun a w s => by
    obtain ⟨st, h⟩ := hm w s.ok s.ro
    have h0 := h
    obtain ⟨es, clock, hb, _⟩ := h0
    obtain ⟨l, hl⟩ := K.reads k hk
    have hc := K.keyed.check w es.isEmpty hl
    rcases h.find k hk hb with ⟨hf, hg⟩ | ⟨j, e', v, hf, _, _, hv, hg⟩
    · simp [execOp, Instr.lookup, s.eval hx, s.eval hy, Sem.run_bind, run_underlying ht, Sem.run_pure, run_getMap hb, hc, hf, run_zero hz, hg]
    · simp [execOp, Instr.lookup, s.eval hx, s.eval hy, Sem.run_bind, run_underlying ht, Sem.run_pure, run_getMap hb, hc, hf, hv, hg]⟩
/-- v, is := m[k]. -/
theorem V.lookup2 {v0 : ε} {kc bytes : Nat} (ht : X.P.underlying t = some (.map kt e)) (hz : TyZ X.P e (vf v0) kc bytes) (hx : ev E x = some (.map (some b))) (hy : ev E y = some (K.f k)) (hk : K.ok k) (hm : HasM X L K vf b m) :
    VO X E L ⟨some d, .lookup t x y true, ty, pos, after, g⟩ (.tuple #[vf ((mget m k).getD v0), .bool (mget m k).isSome]) :=
  ⟨fun c => by simp, fun a w s => by
    obtain ⟨st, h⟩ := hm w s.ok s.ro
    have h0 := h
    obtain ⟨es, clock, hb, _⟩ := h0
    obtain ⟨l, hl⟩ := K.reads k hk
    have hc := K.keyed.check w es.isEmpty hl
    rcases h.find k hk hb with ⟨hf, hg⟩ | ⟨j, e', v, hf, _, _, hv, hg⟩
    · simp [execOp, Instr.lookup, s.eval hx, s.eval hy, Sem.run_bind, run_underlying ht, Sem.run_pure, run_getMap hb, hc, hf, run_zero hz, hg]
    · simp [execOp, Instr.lookup, s.eval hx, s.eval hy, Sem.run_bind, run_underlying ht, Sem.run_pure, run_getMap hb, hc, hf, hv, hg]⟩
theorem own_map {a : Act} {w : World} {st st' : Option (κ × Nat)} {m' : List (κ × ε)} {o' : Obj} (s : X.st E L a w) (hr : Rem L (mapCh K vf b m st) J) (hb : ∃ o, w.heap[b]? = some o) (h : MapIs K vf { w with heap := w.heap.setIfInBounds b o' } b m' st') :
    Own X.w0 X.M (mapCh K vf b m' st' :: J) { w with heap := w.heap.setIfInBounds b o' } := by
  obtain ⟨o, hb⟩ := hb
  have hlt : b < w.heap.size := (Array.getElem?_eq_some_iff.1 hb).1
  refine s.ow.step hr ⟨rfl, rfl, rfl, by simp, fun i hi hn => ?_⟩ h (fun i hi => ?_) (by simp [mapCh])
  · have hne : b ≠ i := fun e => hn (by simp [mapCh, e])
    simp [Array.getElem?_setIfInBounds, hne]
  · simp [mapCh] at hi
    subst hi
    exact ⟨by simpa using hlt, .inl (by simp [mapCh])⟩
/-- make(map[..]..) -/
theorem HO.makeMap (K : Keyer X.P kt κ) (vf : ε → Value) (hn : d < X.n) (h : ∀ b, HO X ((d, .map (some b)) :: E) (mapE K vf b [] :: L) ops rest Q) : HO X E L ops (⟨some d, .makeMap t none, ty, pos, after, none⟩ :: rest) Q :=
  HO.gen (fun b => .map (some b)) (fun b => mapE K vf b [] :: L) rfl rfl hn (fun c => by simp)
    (fun a w s => ⟨w.heap.size, w.alloc (.map #[] 0), by simp [execOp, Instr.makeMap, Sem.run_bind, Sem.run_pure, newObj, Sem.run], s.ow.new _ _ rfl ⟨#[], 0, heap_alloc_new w _, rfl, by simp, by simp, by simp, by simp, fun k s e => by cases e⟩⟩) h
/-- m[k] = v -/
theorem HO.mapUpdate {v : ε} {st : Option (κ × Nat)} (ht : X.P.underlying t = some (.map kt e)) (hx : ev E x = some (.map (some b))) (hy : ev E y = some (K.f k)) (hz : ev E z = some (vf v)) (hk : K.ok k) (hr : Rem L (mapCh K vf b m st) J)
    (h : HO X E (mapE K vf b (mput m k v) :: J) ops rest Q) : HO X E L ops (⟨none, .mapUpdate t x y z, ty, pos, after, none⟩ :: rest) Q := by
  refine HO.eff rfl rfl (fun c => by simp) (fun a w s => ?_) h
  have hM : MapIs K vf w b m st := s.kn.chunk hr
  have hM0 := hM
  obtain ⟨es, clock, hb, _⟩ := hM0
  obtain ⟨l, hl⟩ := K.reads k hk
  have hc := K.keyed.check w false hl
  have hs := K.keyed.stays w hl
  rcases hM.find k hk hb with ⟨hf, hg⟩ | ⟨j, e', v', hf, hj, hek, hv, hg⟩
  · refine ⟨_, ?_, own_map s hr ⟨_, hb⟩ (o' := .map (es.push { key := K.f k, val := vf v, born := clock }) (clock + 1)) (MapIs.rest (hM.push hb (by simp [(Array.getElem?_eq_some_iff.1 hb).1]) hk hg))⟩
    simp [execOp, Instr.mapUpdate, s.eval hx, s.eval hy, s.eval hz, Sem.run_bind, run_underlying ht, Sem.run_pure, run_getMap hb, hc, hf, run_setMap hb]
  · have hkey : ((es[j]?).map (·.key)).getD (K.f k) = K.f k := by rw [← Array.getElem?_toList, hj]; exact hek
    refine ⟨_, ?_, own_map s hr ⟨_, hb⟩ (o' := .map (es.modify j fun e => { e with key := K.f k, val := vf v }) clock) (MapIs.rest (hM.mod (f := fun e => { e with key := K.f k, val := vf v }) hb (by simp [(Array.getElem?_eq_some_iff.1 hb).1]) hj hek rfl rfl rfl))⟩
    simp only [execOp, Instr.mapUpdate, s.eval hx, s.eval hy, s.eval hz, Sem.run_bind, run_underlying ht, Sem.run_pure, run_getMap hb, hc, hf, run_setMap hb, hkey, hs, Result.andThen_ok]
/-- The entry of k, laid if it is not there; its value and stamp. -/
theorem HO.mapEntry {v0 : ε} {st : Option (κ × Nat)} {kc bytes : Nat} (ht : X.P.underlying t = some (.map kt e)) (hzz : TyZ X.P e (vf v0) kc bytes) (hx : ev E x = some (.map (some b))) (hy : ev E y = some (K.f k)) (hk : K.ok k) (hr : Rem L (mapCh K vf b m st) J) (hn : d < X.n)
    (h : ∀ s : Nat, HO X ((d, .tuple #[vf ((mget m k).getD v0), goInt s]) :: E) (mapCh K vf b (mput m k ((mget m k).getD v0)) (some (k, s)) :: J) ops rest Q) : HO X E L ops (⟨some d, .mapEntry t x y, ty, pos, after, none⟩ :: rest) Q := by
  refine HO.gen (fun s : Nat => .tuple #[vf ((mget m k).getD v0), goInt s]) (fun s => mapCh K vf b (mput m k ((mget m k).getD v0)) (some (k, s)) :: J) rfl rfl hn (fun c => by simp) (fun a w s => ?_) h
  have hM : MapIs K vf w b m st := s.kn.chunk hr
  have hM0 := hM
  obtain ⟨es, clock, hb, _⟩ := hM0
  obtain ⟨l, hl⟩ := K.reads k hk
  have hc := K.keyed.check w false hl
  have hs := K.keyed.stays w hl
  rcases hM.find k hk hb with ⟨hf, hg⟩ | ⟨j, e', v', hf, hj, hek, hv, hg⟩
  · refine ⟨clock, _, ?_, own_map s hr ⟨_, hb⟩ (o' := .map (es.push { key := K.f k, val := vf v0, born := clock }) (clock + 1)) (by rw [hg]; exact hM.push hb (by simp [(Array.getElem?_eq_some_iff.1 hb).1]) hk hg)⟩
    simp [execOp, Instr.mapEntry, s.eval hx, s.eval hy, Sem.run_bind, run_underlying ht, Sem.run_pure, run_getMap hb, hc, hf, run_setMap hb, run_zero hzz, hg]
  · have hkey : ((es[j]?).map (·.key)).getD (K.f k) = K.f k := by rw [← Array.getElem?_toList, hj]; exact hek
    have hborn : ((es[j]?).map (fun x => (x.born : Int))).getD 0 = (e'.born : Int) := by rw [← Array.getElem?_toList, hj]; rfl
    refine ⟨e'.born, _, ?_, own_map s hr ⟨_, hb⟩ (o' := .map (es.modify j fun e => { e with key := K.f k }) clock) (by rw [hg]; exact hM.mod (f := fun e => { e with key := K.f k }) hb (by simp [(Array.getElem?_eq_some_iff.1 hb).1]) hj hek rfl hv rfl)⟩
    simp only [execOp, Instr.mapEntry, s.eval hx, s.eval hy, Sem.run_bind, run_underlying ht, Sem.run_pure, run_getMap hb, hc, hf, run_setMap hb, hkey, hs, Result.andThen_ok, hborn, hv, hg, Option.getD_some]
/-- The value of the entry with a stamp is turned. -/
theorem HO.entryStore {v : ε} {s0 : Nat} (hx : ev E x = some (.map (some b))) (hy : ev E y = some (goInt s0)) (hz : ev E z = some (vf v)) (hr : Rem L (mapCh K vf b m (some (k, s0))) J)
    (h : HO X E (mapE K vf b (mput m k v) :: J) ops rest Q) : HO X E L ops (⟨none, .entryStore t x y z, ty, pos, after, none⟩ :: rest) Q := by
  refine HO.eff rfl rfl (fun c => by simp) (fun a w s => ?_) h
  have hM : MapIs K vf w b m (some (k, s0)) := s.kn.chunk hr
  have hM0 := hM
  obtain ⟨es, clock, hb, hm, hnd, hok, hbn, hbl, hst⟩ := hM0
  obtain ⟨en, hen, hek, heb⟩ := hst k s0 rfl
  obtain ⟨j, hj⟩ := List.mem_iff_getElem?.1 hen
  have hidx : es.findIdx? (fun e => ((e.born : Nat) : Int) == ((s0 : Nat) : Int)) = some j := by
    rw [Array.findIdx?_eq_some_iff_getElem]
    have hj2 := List.getElem?_eq_some_iff.1 hj
    obtain ⟨hjl, hje⟩ := hj2
    refine ⟨by simpa using hjl, ?_, ?_⟩
    · have : es[j]'(by simpa using hjl) = en := by simpa using hje
      rw [this, heb]; simp
    · intro i hi
      have hil : i < es.toList.length := by omega
      have hne : (es.toList.map (·.born))[i]? ≠ (es.toList.map (·.born))[j]? := by
        intro e
        have := (List.getElem?_inj (by simpa using hil) hbn).1 e
        omega
      have h1 : (es.toList.map (·.born))[j]? = some s0 := by rw [List.getElem?_map, hj, ← heb]; rfl
      have h2 : (es.toList.map (·.born))[i]? = some (es.toList[i]).born := by rw [List.getElem?_map, List.getElem?_eq_getElem hil]; rfl
      rw [h1, h2] at hne
      have h3 : (es[i]'(by simpa using hil)).born ≠ s0 := by intro e; apply hne; simp [e]
      simpa using (show ¬ ((((es[i]'(by simpa using hil)).born : Nat) : Int) = ((s0 : Nat) : Int)) from fun e => h3 (by exact_mod_cast e))
  refine ⟨_, ?_, own_map s hr ⟨_, hb⟩ (o' := .map (es.modify j fun e => { e with val := vf v }) clock) (MapIs.rest (hM.mod (f := fun e => { e with val := vf v }) hb (by simp [(Array.getElem?_eq_some_iff.1 hb).1]) hj hek hek rfl rfl))⟩
  simp only [goInt] at hy
  simp [execOp, Instr.entryStore, s.eval hx, s.eval hy, s.eval hz, Sem.run_bind, Sem.run_pure, run_getMap hb, asInt, asIntOf, hidx, run_setMap hb]
/-- len(m) -/
theorem V.lenMap (ht : X.P.underlying t = some (.map kt e)) (hx : ev E x = some (.map (some b))) (hm : HasM X L K vf b m) :
    VO X E L ⟨some d, .call { callee := .builtin .len, args := #[x], argTypes := #[t] }, ty, pos, after, g⟩ (.int .i64 (m.length : Int)) :=
  ⟨fun c => by simp, fun a w s => by
    obtain ⟨st, es, clock, hb, hm, _⟩ := hm w s.ok s.ro
    have hl : es.size = m.length := by have := congrArg List.length hm; simpa using this
    simp [execOp, resolve, invoke, builtin, s.eval hx, Builtin.len_, run_underlying ht, run_getMap hb, goInt, hl, Sem.run_bind, Sem.run_pure]⟩
end
/-! ### 3. Keys that are whole numbers, structs of whole numbers -/
def keyI {P : Program} {kt : TypeId} (hk : P.underlying kt = some (.int .i64)) : Keyer P kt Int :=
  ⟨fun a => .int .i64 a, fun a => -9223372036854775808 ≤ a ∧ a ≤ 9223372036854775807, int_keyed hk, fun a ha => ⟨_, keyOf_int_mk hk (by simp [Lit.wf, IntKind.min, IntKind.max, IntKind.signed, IntKind.bits]; omega)⟩, fun x y h => by injection h⟩
end Go.Proofs.Ytcmlghemanjaaaa.Sl
