/- Steps of a walk: arrays of whole numbers built, compared; keys that are structs of whole numbers. Nothing about one program. No conditions. -/
import Derived.Test.YtcmlghemanjaaaaSlS
import Derived.ChangeKeysEq
set_option linter.unusedVariables false
set_option linter.unusedSimpArgs false
set_option linter.unusedSectionVars false
namespace Go.Proofs.Ytcmlghemanjaaaa.Sl
open Go Go.RowKit Go.Maps

/-! ### 1. Keys -/
theorem mapM_ex {α β : Type} (f : α → Option β) : ∀ l : List α, (∀ x ∈ l, ∃ y, f x = some y) → ∃ ys, l.mapM f = some ys
  | [], _ => ⟨[], by simp⟩
  | x :: l, h => by
    obtain ⟨y, hy⟩ := h x (List.mem_cons_self ..)
    obtain ⟨ys, hys⟩ := mapM_ex f l fun z hz => h z (List.mem_cons_of_mem _ hz)
    exact ⟨y :: ys, by rw [List.mapM_cons, hy, hys]; rfl⟩
/-- The type is a struct of so many whole numbers that may be a key. -/
def KeyFields (P : Program) (kt : TypeId) (n : Nat) : Prop := ∃ fs, P.underlying kt = some (.struct fs) ∧ P.keyType kt = true ∧ P.cellsOf kt = n ∧ fs.size = n ∧ fs.all (·.name != "_") = true ∧ (∃ m, P.types.size = m + 1) ∧
  (fs.toList.zipIdx.all fun x => x.1.offset == x.2 && (match P.underlying x.1.type with | some (.int .i64) => true | _ => false) && P.cellsOf x.1.type == 1) = true
theorem keyOf_ints {P : Program} {kt : TypeId} {n : Nat} (hk : KeyFields P kt n) (as : List Int) (hl : as.length = n) (hw : ∀ a ∈ as, -9223372036854775808 ≤ a ∧ a ≤ 9223372036854775807) : ∃ l, keyOf P kt (.agg (as.map (Value.int .i64)).toArray) = some l := by
  obtain ⟨fs, hu, hkt, hc, hn, hnm, ⟨m, hm⟩, hall⟩ := hk
  have h1 : ∃ ls, P.keyLits (P.types.size + 1) kt (as.map (Value.int .i64)) = some ls := by
    unfold Program.keyLits
    rw [hu]
    dsimp only
    rw [if_pos ⟨by simp [hc, hl], hnm⟩]
    obtain ⟨ys, hys⟩ := mapM_ex (fun f : Field => P.keyLits P.types.size f.type (((as.map (Value.int .i64)).drop f.offset).take (P.cellsOf f.type))) fs.toList (fun f hf => by
      obtain ⟨i, hi⟩ := List.mem_iff_getElem?.1 hf
      have h2 := List.all_eq_true.1 hall (f, i) (by rw [List.mem_zipIdx_iff_getElem?]; exact hi)
      simp only [Bool.and_eq_true, beq_iff_eq] at h2
      obtain ⟨⟨ho, hty⟩, hcl⟩ := h2
      have hil : i < as.length := by have := (List.getElem?_eq_some_iff.1 hi).1; simp at this; omega
      have hty' : P.underlying f.type = some (.int .i64) := by
        revert hty
        cases P.underlying f.type with
        | none => intro h; cases h
        | some dsc =>
          intro h
          cases dsc with
          | int k => cases k <;> first | rfl | cases h
          | _ => cases h
      refine ⟨[.int .i64 as[i]], ?_⟩
      rw [ho, hcl, hm]
      unfold Program.keyLits
      rw [hty']
      have e : ((as.map (Value.int .i64)).drop i).take 1 = [.int .i64 as[i]] := by
        rw [List.drop_eq_getElem_cons (by simpa using hil)]
        simp
      rw [e]
      have := hw as[i] (List.getElem_mem hil)
      simp [Lit.wf, IntKind.min, IntKind.max, IntKind.signed, IntKind.bits]
      omega)
    rw [hys]
    exact ⟨_, rfl⟩
  obtain ⟨ls, hls⟩ := h1
  refine ⟨.string (keyBytes ls), ?_⟩
  unfold keyOf
  rw [hu]
  dsimp only
  have hfm : (Value.agg (as.map (Value.int .i64)).toArray).formed P kt = true := by
    unfold Value.formed
    rw [hu]
    simp [hc, hl]
  rw [hkt, hfm]
  simp only [Bool.and_self, if_true, Value.cells, List.toList_toArray]
  rw [hls]
  rfl
theorem keyed_struct {P : Program} {kt : TypeId} {n : Nat} (hl : laidOutB P = true) (hk : KeyFields P kt n) (hb : Nat.ble P.types.size 9000 = true) (hlt : Nat.blt kt P.types.size = true) : Keyed P kt := by
  obtain ⟨fs, hu, hkt, _⟩ := hk
  have := Nat.le_of_ble_eq_true hb
  exact Keyed.of_law (deep_law_laid hl (m := P.types.size + 1) (by omega) (Nat.le_of_ble_eq_true hlt) hkt (by rw [hu]))
/-- Keys that are structs of four whole numbers. -/
def key4 {P : Program} {kt : TypeId} (hl : laidOutB P = true) (hk : KeyFields P kt 4) (hb : Nat.ble P.types.size 9000 = true) (hlt : Nat.blt kt P.types.size = true) : Keyer P kt (Int × Int × Int × Int) :=
  keyS4 (keyed_struct hl hk hb hlt) (fun a b c d ha hb hc hd => keyOf_ints hk [a, b, c, d] rfl (by simp; exact ⟨ha, hb, hc, hd⟩))

/-! ### 2. Arrays of whole numbers -/
def IntArr (P : Program) (t : TypeId) (n : Nat) : Prop := ∃ e, P.underlying t = some (.array n e) ∧ P.underlying e = some (.int .i64) ∧ P.cellsOf e = 1 ∧ (P.info? e).map (·.size) = some 1 ∧ P.eqGuardType P.depth t = false
theorem run_eqItems_ints {P : Program} {e : TypeId} (he : P.underlying e = some (.int .i64)) (w : World) (d : Nat) (xs ys : Array Value) : ∀ (as bs : List Int) (i : Nat), as.length = bs.length →
    (∀ j a, as[j]? = some a → xs[i + j]? = some (.int .i64 a)) → (∀ j a, bs[j]? = some a → ys[i + j]? = some (.int .i64 a)) →
    (Op.eqItems (d + 1) e 1 xs ys (List.range' i as.length)).run P w = .ok (decide (as = bs)) w := by
  intro as
  induction as with
  | nil => intro bs i h _ _; simp at h; have h' := h.symm; simp at h'; subst h'; simp [Op.eqItems]
  | cons a as ih =>
    intro bs i h hx hy
    cases bs with
    | nil => simp at h
    | cons b bs =>
    have hxa : xs[i]? = some (.int .i64 a) := hx 0 a rfl
    have hya : ys[i]? = some (.int .i64 b) := hy 0 b rfl
    have hag : (isAgg e).run P w = .ok false w := run_isAgg (b := false) (by rw [he]; rfl) w
    have hpa : (part e xs (i * 1)).run P w = .ok (.int .i64 a) w := by simp [part, Sem.run_bind, hag, hxa, Sem.run_pure]
    have hpb : (part e ys (i * 1)).run P w = .ok (.int .i64 b) w := by simp [part, Sem.run_bind, hag, hya, Sem.run_pure]
    have hab := run_equalIn_int (P := P) (w := w) d e .i64 .i64 a b he
    have hr := ih bs (i + 1) (by simpa using h) (fun j c hc => by have := hx (j + 1) c (by simpa using hc); rw [show i + 1 + j = i + (j + 1) by omega]; exact this)
      (fun j c hc => by have := hy (j + 1) c (by simpa using hc); rw [show i + 1 + j = i + (j + 1) by omega]; exact this)
    rw [List.length_cons, List.range'_succ]
    simp only [Op.eqItems, Sem.run_bind, hpa, hpb, hab, Result.andThen_ok]
    by_cases hq : a = b
    · subst hq
      simp [hr]
    · simp [hq]
theorem run_eql_arr {P : Program} {t : TypeId} {n : Nat} (ht : IntArr P t n) (as bs : List Int) (ha : as.length = n) (hb : bs.length = n) (x y : Operand) (w : World) :
    (do eqGuard .eql t x y (.agg (as.map (Value.int .i64)).toArray) (.agg (bs.map (Value.int .i64)).toArray); binOp .eql t (.agg (as.map (Value.int .i64)).toArray) (.agg (bs.map (Value.int .i64)).toArray) : Sem Value).run P w = .ok (.bool (decide (as = bs))) w ∧
    (do eqGuard .neq t x y (.agg (as.map (Value.int .i64)).toArray) (.agg (bs.map (Value.int .i64)).toArray); binOp .neq t (.agg (as.map (Value.int .i64)).toArray) (.agg (bs.map (Value.int .i64)).toArray) : Sem Value).run P w = .ok (.bool (!decide (as = bs))) w := by
  obtain ⟨e, hu, he, hc, hi, hg⟩ := ht
  obtain ⟨i, hi'⟩ : ∃ i, P.info? e = some i := by cases h : P.info? e with | none => rw [h] at hi; cases hi | some i => exact ⟨i, rfl⟩
  have hq : (Op.equal t (.agg (as.map (Value.int .i64)).toArray) (.agg (bs.map (Value.int .i64)).toArray)).run P w = .ok (decide (as = bs)) w := by
    have h1 := run_equalIn_array (P := P) w (9998 + 1) (as.map (Value.int .i64)).toArray (bs.map (Value.int .i64)).toArray hu hi'
    have h2 := run_eqItems_ints (P := P) he w 9998 (as.map (Value.int .i64)).toArray (bs.map (Value.int .i64)).toArray as bs 0 (by omega) (fun j a hj => by simp [hj]) (fun j a hj => by simp [hj])
    rw [hc] at h1
    rw [ha, ← List.range_eq_range'] at h2
    exact h1.trans h2
  have hgd : ∀ op, op = BinOp.eql ∨ op = BinOp.neq → (eqGuard op t x y (.agg (as.map (Value.int .i64)).toArray) (.agg (bs.map (Value.int .i64)).toArray)).run P w = .ok () w := by
    intro op ho
    rcases ho with rfl | rfl <;> simp [eqGuard, Sem.run_bind, run_program, hg, Sem.run_pure]
  constructor
  · simp only [Sem.run_bind, hgd _ (.inl rfl), Result.andThen_ok, binOp, hq, Sem.run_pure]
  · simp only [Sem.run_bind, hgd _ (.inr rfl), Result.andThen_ok, binOp, hq, Sem.run_pure]
section
variable {X : Cx} {E : Env} {L K : List Ch} {ops : Array Oper} {rest : List Oper} {Q : Post} {d : Nat} {ty t e : TypeId} {pos : String} {after : Array Edge} {x y : Operand} {v : Value} {g : Option (Nat × Bool)}
theorem V.eqlA {xt yt : TypeId} {n : Nat} (as bs : List Int) (ht : IntArr X.P xt n) (hx : ev E x = some (.agg (as.map (Value.int .i64)).toArray)) (hy : ev E y = some (.agg (bs.map (Value.int .i64)).toArray)) (ha : as.length = n) (hb : bs.length = n) :
    VO X E L ⟨some d, .binOp .eql xt x y yt, ty, pos, after, g⟩ (.bool (decide (as = bs))) :=
  ⟨fun c => by simp, fun a w s => by
    have := (run_eql_arr ht as bs ha hb x y w).1
    simp only [execOp, s.eval hx, s.eval hy, Sem.run_bind, Sem.run_pure] at this ⊢
    rw [this]; rfl⟩
theorem V.neqA {xt yt : TypeId} {n : Nat} (as bs : List Int) (ht : IntArr X.P xt n) (hx : ev E x = some (.agg (as.map (Value.int .i64)).toArray)) (hy : ev E y = some (.agg (bs.map (Value.int .i64)).toArray)) (ha : as.length = n) (hb : bs.length = n) :
    VO X E L ⟨some d, .binOp .neq xt x y yt, ty, pos, after, g⟩ (.bool (!decide (as = bs))) :=
  ⟨fun c => by simp, fun a w s => by
    have := (run_eql_arr ht as bs ha hb x y w).2
    simp only [execOp, s.eval hx, s.eval hy, Sem.run_bind, Sem.run_pure] at this ⊢
    rw [this]; rfl⟩
/-- [n]T{..}: an array is built; its elements ys are told. -/
theorem V.buildArr {α : Type} {z : Value} {bytes n : Nat} {cs : List Value} {parts : List (Nat × Operand)} {pv : List (Nat × Value)} (N : Enc α) (ys : List α) (hu : X.P.underlying t = some (.array n e)) (hk : (X.P.info? e).map (·.size) = some N.k) (hz : TyZ X.P t z (n * N.k) bytes) (hc : z.cells = cs.toArray) (hcl : cs.length = n * N.k) (hp : PArgs E parts pv) (hf : FillOk N 0 ys pv) (hl : ys.length = n) :
    VO X E L ⟨some d, .build t parts.toArray, ty, pos, after, g⟩ (.agg (N.row ys).toArray) :=
  ⟨fun c => by simp, fun a w s => by
    have h1 : Instr.fill (fun i => some (i * N.k, N.k)) cs.toArray pv = some (N.row ys).toArray := by
      have := hf.fill cs.toArray (by simp [hcl, hl])
      simpa using this
    simp only [execOp, Instr.build, Sem.run_bind, run_zero hz, Result.andThen_ok, run_underlying hu, run_sizeOf' hk, List.map_toArray, hp.eval s, hc, h1, Sem.run_pure]⟩
end
section
variable {X : Cx} {E : Env} {L K : List Ch} {ops : Array Oper} {rest : List Oper} {Q : Post} {d : Nat} {ty t e : TypeId} {pos : String} {after : Array Edge} {x y : Operand} {v : Value} {A : Option Addr} {α : Type} {N : Enc α} {z : α}
inductive StoreS (L : List Ch) (A : Option Addr) (N : Enc α) (j : Nat) (z : α) : List Ch → Prop
  | mk {e : TypeId} {c : Nat} {ys : List α} {K : List Ch} (hr : Rem L (rowE N e A c ys) K) (hj : j < ys.length) : StoreS L A N j z (rowE N e A c (ys.set j z) :: K)
theorem StoreS.elem {j : Nat} {L2 : List Ch} (h : StoreS L A N j z L2) : StoreE L A N j z L2 := by
  obtain @⟨e, c, ys, K, hr, hj⟩ := h
  have h1 := StoreE.mk (z := z) hr hj
  have e1 : rowE N e A c (ys.set j z) = rowCh e N.k A c ys.length (N.row (ys.set j z)) := by show rowCh e N.k A c (ys.set j z).length _ = _; rw [List.length_set]
  rw [e1]
  exact h1
/-- An element is written: the row of what it holds then. -/
theorem HO.storeS {j : Nat} {L2 : List Ch} (hk : (X.P.info? t).map (·.size) = some N.k) (hx : ev E x = some (.pointer (some (radr A (j * N.k))))) (hy : ev E y = some v) (hc : v.cells = (N.f z).toArray) (hst : StoreS L A N j z L2)
    (h : HO X E L2 ops rest Q) : HO X E L ops (⟨none, .store t x y, ty, pos, after, none⟩ :: rest) Q := HO.storeE hk hx hy hc hst.elem h
end
theorem mput_mput {κ ε : Type} [DecidableEq κ] {m : List (κ × ε)} {k : κ} {u v : ε} : mput (mput m k u) k v = mput m k v := by
  have hs : (mget (mput m k u) k).isSome = true := by rw [mget_mput, if_pos rfl]; rfl
  unfold mput at hs ⊢
  by_cases h : (mget m k).isSome = true
  · rw [if_pos h] at hs ⊢
    rw [if_pos hs, if_pos h, List.map_map]
    apply List.map_congr_left
    intro p _
    simp only [Function.comp]
    by_cases e : p.1 = k <;> simp [e]
  · rw [if_neg h] at hs ⊢
    rw [if_pos hs, if_neg h, List.map_append]
    congr 1
    · conv => rhs; rw [← List.map_id m]
      apply List.map_congr_left
      intro p hp
      rw [if_neg (mget_isNone h p hp)]
      rfl
    · simp
theorem mput_mem {κ ε : Type} [DecidableEq κ] {m : List (κ × ε)} {k : κ} {v : ε} {p : κ × ε} (h : p ∈ mput m k v) : p ∈ m ∨ p = (k, v) := by
  unfold mput at h
  split at h
  · obtain ⟨q, hq, rfl⟩ := List.mem_map.1 h
    split
    · exact .inr rfl
    · exact .inl hq
  · rcases List.mem_append.1 h with h | h
    · exact .inl h
    · simp at h; exact .inr h
theorem Reads.sub {R K l : List Ch} (h : ∀ c ∈ l, c ∈ R) : Reads R K l := by
  induction l with
  | nil => exact .nil
  | cons c l ih => exact .ro (h c (List.mem_cons_self ..)) (ih fun d hd => h d (List.mem_cons_of_mem _ hd))
theorem res0 {X : Cx} {E : Env} {L : List Ch} {fn : Func} {a : Act} {w : World} (hf : fn.results = #[]) (s : X.st E L a w) : (results fn a.tmps).run X.P w = .ok (.tuple #[]) w := by
  simp [results, hf, Sem.run_bind, Sem.run_pure]
/-- Pairs of whole numbers, as [2]int. -/
def encP2 : Enc (Int × Int) := ⟨2, fun x => [.int .i64 x.1, .int .i64 x.2], fun _ => rfl, by decide, fun _ => rfl⟩
/-- A region that draws; the pieces that hold throughout are told. -/
theorem H.drawsS {X : Cx} {E : Env} {L : List Ch} {Q : Post} {id : Nat} {l : List Oper} (LS : List Ch) (F : List Nat) (hp : Sub L LS) (hm : X.P.follows .mixedOrders = true) (h : HA X E L LS F l.toArray l.length (Array.replicate l.length false) Q) : H X E L (.region id l.toArray true) Q := by
  intro a w s
  refine wpIn_mono (wpIn_region_any hm (AnyH.any (F := F) (S := Holds X.R LS) _ _ _ _ ?_)) fun e a w h => NP.out h
  have h1 := h a w.drew ⟨s.ro, s.df, s.sz, s.ag, s.ow.drew⟩
  have e1 : l.toArray.size = l.length := by simp
  rw [e1]
  exact h1
/-- Results, however many. -/
inductive ResL (X : Cx) (E : Env) (L : List Ch) : List ResultVar → List Value → Prop
  | nil : ResL X E L [] []
  | cons {r : ResultVar} {v : Value} {rs : List ResultVar} {vs : List Value} (h : Res X E L r v) (t : ResL X E L rs vs) : ResL X E L (r :: rs) (v :: vs)
theorem ResL.run {X : Cx} {E : Env} {L : List Ch} {a : Act} {w : World} {rs : List ResultVar} {vs : List Value} (s : X.st E L a w) (h : ResL X E L rs vs) : (rs.mapM (resSem a)).run X.P w = .ok vs w := by
  induction h with
  | nil => simp [Sem.run_pure]
  | cons h _ ih => rw [List.mapM_cons]; simp only [Sem.run_bind, h.run s, Result.andThen_ok, ih, Sem.run_pure]
theorem resRL {X : Cx} {E : Env} {L : List Ch} {fn : Func} {a : Act} {w : World} {rs : List ResultVar} {vs : List Value} (hf : fn.results = rs.toArray) (hl : Nat.beq vs.length 1 = false) (s : X.st E L a w) (h : ResL X E L rs vs) : (results fn a.tmps).run X.P w = .ok (.tuple vs.toArray) w := by
  have e := h.run s
  have hne : ¬ vs.length = 1 := fun h1 => by rw [h1] at hl; cases hl
  rw [results_eq, hf, List.mapM_toArray]
  simp only [Sem.run_bind, Sem.run_map, e, Result.andThen_ok, Sem.run_pure]
  simp [hne]
end Go.Proofs.Ytcmlghemanjaaaa.Sl
