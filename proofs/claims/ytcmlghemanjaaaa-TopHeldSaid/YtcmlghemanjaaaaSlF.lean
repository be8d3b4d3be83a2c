/- Steps of a walk: structs built, compared; conversions, bits; slicing; results that lie in cells; scopes. Nothing about one program. No conditions. -/
import Derived.Test.YtcmlghemanjaaaaSlE
import Derived.Laws.StructEq
import Derived.Scope
set_option linter.unusedVariables false
set_option linter.unusedSimpArgs false
set_option linter.unusedSectionVars false
namespace Go.Proofs.Ytcmlghemanjaaaa.Sl
open Go Go.RowKit

/-! ### 1. A struct built -/
inductive Fills (pl : List (Nat × Nat)) : List Value → List (Nat × Value) → List Value → Prop
  | nil {cs : List Value} : Fills pl cs [] cs
  | cons {cs cs1 cs2 vs : List Value} {i off k : Nat} {v : Value} {pv : List (Nat × Value)} (hi : pl[i]? = some (off, k)) (hv : v.cells = vs.toArray) (hl : vs.length = k) (hp : Put cs off vs cs1) (r : Fills pl cs1 pv cs2) : Fills pl cs ((i, v) :: pv) cs2
theorem Fills.fill {pl : List (Nat × Nat)} {cs cs' : List Value} {pv : List (Nat × Value)} (h : Fills pl cs pv cs') : Instr.fill (fun i => pl.toArray[i]?) cs.toArray pv = some cs'.toArray := by
  induction h with
  | nil => rfl
  | @cons cs cs1 cs2 vs i off k v pv hi hv hl hp r ih =>
    have hsz : v.cells.size = k := by rw [hv]; simpa using hl
    have hi' : pl.toArray[i]? = some (off, k) := by simpa using hi
    have hle := hp.at.1
    have hno : ¬ (v.cells.size ≠ k || off + v.cells.size > cs.toArray.size) = true := by simp [hsz]; omega
    have hf := fold_set off vs 0 cs.toArray (by simp; omega)
    simp only [Nat.add_zero] at hf
    rw [hp.at.2] at hf
    have hfold : v.cells.zipIdx.foldl (fun cs (x : Value × Nat) => cs.setIfInBounds (off + x.2) x.1) cs.toArray = cs1.toArray := by
      apply Array.ext'
      rw [hv, ← Array.foldl_toList, Array.toList_zipIdx]
      simpa using hf
    have hfold' : v.cells.zipIdx.foldl (fun cs (c, j) => cs.setIfInBounds (off + j) c) cs.toArray = cs1.toArray := hfold
    simp only [Instr.fill, hi', hno, if_false, Bool.false_eq_true, hfold']
    exact ih
/-- The places of a struct's fields. -/
def Places (P : Program) (t : TypeId) (pl : List (Nat × Nat)) : Prop := ∃ fs, P.underlying t = some (.struct fs) ∧ fs.toList.mapM (fun f => (P.info? f.type).map fun j => (f.offset, j.size)) = some pl
theorem run_places {P : Program} (w : World) : ∀ (fs : List Field) (pl : List (Nat × Nat)), fs.mapM (fun f => (P.info? f.type).map fun j => (f.offset, j.size)) = some pl →
    (fs.mapM fun f => (do pure (f.offset, ← sizeOf f.type) : Sem (Nat × Nat))).run P w = .ok pl w := by
  intro fs
  induction fs with
  | nil => intro pl h; simp at h; subst h; rfl
  | cons f fs ih =>
    intro pl h
    rw [List.mapM_cons] at h
    cases hi : P.info? f.type with
    | none => rw [hi] at h; simp at h
    | some j =>
      rw [hi] at h
      cases hr : fs.mapM (fun f => (P.info? f.type).map fun j => (f.offset, j.size)) with
      | none => rw [hr] at h; simp at h
      | some pl' =>
        rw [hr] at h
        simp at h
        subst h
        rw [List.mapM_cons]
        have hs : (sizeOf f.type).run P w = .ok j.size w := run_sizeOf' (by rw [hi]; rfl) w
        simp only [Sem.run_bind, hs, Result.andThen_ok, Sem.run_pure]
        rw [ih _ hr]
        rfl
section
variable {X : Cx} {E : Env} {L K : List Ch} {ops : Array Oper} {rest : List Oper} {Q : Post} {d : Nat} {ty t e : TypeId} {pos : String} {after : Array Edge} {x y : Operand} {v : Value} {cs cs' : List Value} {g : Option (Nat × Bool)}
theorem V.build {z : Value} {k bytes : Nat} {parts : List (Nat × Operand)} {pv : List (Nat × Value)} {pl : List (Nat × Nat)} (hz : TyZ X.P t z k bytes) (hpl : Places X.P t pl) (hc : z.cells = cs.toArray) (hp : PArgs E parts pv) (hf : Fills pl cs pv cs') :
    VO X E L ⟨some d, .build t parts.toArray, ty, pos, after, g⟩ (.agg cs'.toArray) :=
  ⟨fun c => by simp, fun a w s => by
    obtain ⟨fs, hu, hm⟩ := hpl
    have hm' : (fs.mapM fun f => (do pure (f.offset, ← sizeOf f.type) : Sem (Nat × Nat))).run X.P w = .ok pl.toArray w := by
      have := run_places w fs.toList pl hm
      have e : fs = fs.toList.toArray := by simp
      rw [e, List.mapM_toArray]
      simp only [Sem.run_map]
      rw [this]
      rfl
    simp only [execOp, Instr.build, Sem.run_bind, run_zero hz, Result.andThen_ok, run_underlying hu, hm', List.map_toArray, hp.eval s, hc, hf.fill, Sem.run_pure]⟩

/-! ### 2. Structs of whole numbers compared -/
/-- The struct's fields are so many whole numbers, one behind the other. -/
def IntFields (P : Program) (t : TypeId) (n : Nat) : Prop := ∃ fs, P.underlying t = some (.struct fs) ∧ P.stoodInHeld t = false ∧ P.eqGuardType P.depth t = false ∧ fs.size = n ∧
  (fs.toList.zipIdx.all fun x => x.1.offset == x.2 && x.1.name != "_" && (match P.underlying x.1.type with | some (.int .i64) => true | _ => false)) = true
theorem run_eqFields_ints {P : Program} (w : World) (d : Nat) (xs ys : Array Value) : ∀ (fs : List Field) (i : Nat) (as bs : List Int), as.length = fs.length → bs.length = fs.length →
    (∀ j a, as[j]? = some a → xs[i + j]? = some (.int .i64 a)) → (∀ j a, bs[j]? = some a → ys[i + j]? = some (.int .i64 a)) →
    ((fs.zipIdx i).all fun x => x.1.offset == x.2 && x.1.name != "_" && (match P.underlying x.1.type with | some (.int .i64) => true | _ => false)) = true →
    (Op.eqFields (d + 1) xs ys fs).run P w = .ok (decide (as = bs)) w := by
  intro fs
  induction fs with
  | nil => intro i as bs h1 h2 _ _ _; simp at h1 h2; subst h1 h2; simp [Op.eqFields]
  | cons f fs ih =>
    intro i as bs h1 h2 hx hy hall
    cases as with
    | nil => simp at h1
    | cons a as =>
    cases bs with
    | nil => simp at h2
    | cons b bs =>
    simp only [List.zipIdx_cons, List.all_cons, Bool.and_eq_true] at hall
    obtain ⟨⟨⟨ho, hnm⟩, hty⟩, hrest⟩ := hall
    have ho' : f.offset = i := by simpa using ho
    have hn' : f.name ≠ "_" := by simpa using hnm
    have hu : P.underlying f.type = some (.int .i64) := by
      revert hty
      cases P.underlying f.type with
      | none => intro h; cases h
      | some dsc =>
        intro h
        cases dsc with
        | int k => cases k <;> first | rfl | cases h
        | _ => cases h
    have hxa : xs[i]? = some (.int .i64 a) := hx 0 a rfl
    have hya : ys[i]? = some (.int .i64 b) := hy 0 b rfl
    have hag : (isAgg f.type).run P w = .ok false w := run_isAgg (b := false) (by rw [hu]; rfl) w
    have hpa : (part f.type xs f.offset).run P w = .ok (.int .i64 a) w := by simp [part, Sem.run_bind, hag, ho', hxa, Sem.run_pure]
    have hpb : (part f.type ys f.offset).run P w = .ok (.int .i64 b) w := by simp [part, Sem.run_bind, hag, ho', hya, Sem.run_pure]
    have hab := run_equalIn_int (P := P) (w := w) d f.type .i64 .i64 a b hu
    have hr := ih (i + 1) as bs (by simpa using h1) (by simpa using h2) (fun j c hc => by have := hx (j + 1) c (by simpa using hc); rw [show i + 1 + j = i + (j + 1) by omega]; exact this)
      (fun j c hc => by have := hy (j + 1) c (by simpa using hc); rw [show i + 1 + j = i + (j + 1) by omega]; exact this) hrest
    rw [Op.eqFields]
    simp only [if_pos hn', Sem.run_bind, hpa, hpb, hab, Result.andThen_ok]
    by_cases hq : a = b
    · subst hq
      simp [hr]
    · simp [hq]
theorem run_eql_ints {P : Program} {t : TypeId} {n : Nat} (ht : IntFields P t n) (as bs : List Int) (ha : as.length = n) (hb : bs.length = n) (x y : Operand) (w : World) :
    (do eqGuard .eql t x y (.agg (as.map (Value.int .i64)).toArray) (.agg (bs.map (Value.int .i64)).toArray); binOp .eql t (.agg (as.map (Value.int .i64)).toArray) (.agg (bs.map (Value.int .i64)).toArray) : Sem Value).run P w = .ok (.bool (decide (as = bs))) w ∧
    (do eqGuard .neq t x y (.agg (as.map (Value.int .i64)).toArray) (.agg (bs.map (Value.int .i64)).toArray); binOp .neq t (.agg (as.map (Value.int .i64)).toArray) (.agg (bs.map (Value.int .i64)).toArray) : Sem Value).run P w = .ok (.bool (!decide (as = bs))) w := by
  obtain ⟨fs, hu, hs, hg, hn, hall⟩ := ht
  have hf : P.fieldsOf t = fs := by simp [Program.fieldsOf, hu]
  have he : (Op.equal t (.agg (as.map (Value.int .i64)).toArray) (.agg (bs.map (Value.int .i64)).toArray)).run P w = .ok (decide (as = bs)) w := by
    have h1 := run_equalIn_struct (P := P) (w := w) (9998 + 1) t (as.map (Value.int .i64)).toArray (bs.map (Value.int .i64)).toArray (by rw [hf]; exact hu) hs
    rw [hf] at h1
    have h2 := run_eqFields_ints (P := P) w 9998 (as.map (Value.int .i64)).toArray (bs.map (Value.int .i64)).toArray fs.toList 0 as bs (by simp [ha, hn]) (by simp [hb, hn]) (fun j a hj => by simp [hj]) (fun j a hj => by simp [hj]) hall
    exact h1.trans h2
  have hgd : ∀ op, op = BinOp.eql ∨ op = BinOp.neq → (eqGuard op t x y (.agg (as.map (Value.int .i64)).toArray) (.agg (bs.map (Value.int .i64)).toArray)).run P w = .ok () w := by
    intro op ho
    rcases ho with rfl | rfl <;> simp [eqGuard, Sem.run_bind, run_program, hg, Sem.run_pure]
  constructor
  · simp only [Sem.run_bind, hgd _ (.inl rfl), Result.andThen_ok, binOp, he, Sem.run_pure]
  · simp only [Sem.run_bind, hgd _ (.inr rfl), Result.andThen_ok, binOp, he, Sem.run_pure]
theorem V.eqlS {xt yt : TypeId} {n : Nat} (as bs : List Int) (ht : IntFields X.P xt n) (hx : ev E x = some (.agg (as.map (Value.int .i64)).toArray)) (hy : ev E y = some (.agg (bs.map (Value.int .i64)).toArray)) (ha : as.length = n) (hb : bs.length = n) :
    VO X E L ⟨some d, .binOp .eql xt x y yt, ty, pos, after, g⟩ (.bool (decide (as = bs))) :=
  ⟨fun c => by simp, fun a w s => by
    have := (run_eql_ints ht as bs ha hb x y w).1
    simp only [execOp, s.eval hx, s.eval hy, Sem.run_bind, Sem.run_pure] at this ⊢
    rw [this]; rfl⟩
theorem V.neqS {xt yt : TypeId} {n : Nat} (as bs : List Int) (ht : IntFields X.P xt n) (hx : ev E x = some (.agg (as.map (Value.int .i64)).toArray)) (hy : ev E y = some (.agg (bs.map (Value.int .i64)).toArray)) (ha : as.length = n) (hb : bs.length = n) :
    VO X E L ⟨some d, .binOp .neq xt x y yt, ty, pos, after, g⟩ (.bool (!decide (as = bs))) :=
  ⟨fun c => by simp, fun a w s => by
    have := (run_eql_ints ht as bs ha hb x y w).2
    simp only [execOp, s.eval hx, s.eval hy, Sem.run_bind, Sem.run_pure] at this ⊢
    rw [this]; rfl⟩

/-- s == nil. -/
theorem V.eqlNil {xt yt : TypeId} {A : Option Addr} {n c : Nat} (ht : X.P.underlying xt = some (.slice e)) (hx : ev E x = some (.slice A n c)) (hy : ev E y = some (.slice none 0 0)) :
    VO X E L ⟨some d, .binOp .eql xt x y yt, ty, pos, after, g⟩ (.bool A.isNone) :=
  ⟨fun c => by simp, fun a w s => by
    have h1 : (Op.equal xt (.slice A n c) (.slice none 0 0)).run X.P w = .ok A.isNone w := by
      have e1 : Op.equal xt (.slice A n c) (.slice none 0 0) = Op.equalIn (9999 + 1) xt (.slice A n c) (.slice none 0 0) := rfl
      rw [e1]
      unfold Op.equalIn
      simp only [Sem.run_bind, run_underlying ht, Result.andThen_ok]
      cases A <;> rfl
    have h2 : (eqGuard .eql xt x y (.slice A n c) (.slice none 0 0)).run X.P w = .ok () w := by simp [eqGuard, Sem.run_pure]
    simp only [execOp, s.eval hx, s.eval hy, Sem.run_bind, h2, Result.andThen_ok, binOp, h1, Sem.run_pure]⟩
/-! ### 3. Conversions, bits, shifts -/
theorem V.convI {src dst : TypeId} {ds : TypeDesc} {k k' : IntKind} {a : Int} (hs : X.P.underlying src = some ds) (hd : X.P.underlying dst = some (.int k)) (hx : ev E x = some (.int k' a)) :
    VO X E L ⟨some d, .convert src dst x, ty, pos, after, g⟩ (.int k (k.wrap a)) :=
  ⟨fun c => by simp, fun a w s => by
    cases ds <;> simp [execOp, s.eval hx, convert, Sem.run_bind, run_underlying hs, run_underlying hd, Conv.intToInt, Sem.run_pure]⟩
theorem V.convI64 {src dst : TypeId} {ds : TypeDesc} {k' : IntKind} {a : Int} (hs : X.P.underlying src = some ds) (hd : X.P.underlying dst = some (.int .i64)) (hx : ev E x = some (.int k' a)) (hb : -9223372036854775808 ≤ a ∧ a ≤ 9223372036854775807) :
    VO X E L ⟨some d, .convert src dst x, ty, pos, after, g⟩ (.int .i64 a) :=
  by have h := V.convI (X := X) (E := E) (L := L) (d := d) (ty := ty) (pos := pos) (after := after) (g := g) hs hd hx; rwa [wrap_in hb] at h
def ibits (op : BinOp) (k : IntKind) (x y : Int) : Int :=
  let a := BitVec.ofInt k.bits x
  let b := BitVec.ofInt k.bits y
  match op with
  | .and => k.wrap (a &&& b).toNat
  | .or => k.wrap (a ||| b).toNat
  | .xor => k.wrap (a ^^^ b).toNat
  | .andNot => k.wrap (a &&& ~~~b).toNat
  | _ => 0
section
variable {a b : Int} {k yk : IntKind} {xt yt : TypeId} (hx : ev E x = some (.int k a))
include hx
theorem V.bitsI (op : BinOp) (hy : ev E y = some (.int k b)) (ho : op = .and ∨ op = .or ∨ op = .xor ∨ op = .andNot) :
    VO X E L ⟨some d, .binOp op xt x y yt, ty, pos, after, g⟩ (.int k (ibits op k a b)) :=
  V.binInt hx hy _ _ (by rcases ho with rfl | rfl | rfl | rfl <;> decide) (fun w => by rcases ho with rfl | rfl | rfl | rfl <;> simp [binOp, Op.intBits, ibits, Sem.run_pure])
theorem V.shl (hy : ev E y = some (.int yk b)) (h0 : 0 ≤ b) :
    VO X E L ⟨some d, .binOp .shl xt x y yt, ty, pos, after, g⟩ (.int k (k.wrap (a * 2 ^ min b.toNat k.bits))) :=
  ⟨fun c => by simp, fun a' w s => by simp [execOp, s.eval hx, s.eval hy, Sem.run_bind, Sem.run_pure, run_eqGuard_int, binOp, Op.shift, show ¬ b < 0 by omega]⟩
theorem V.shr (hy : ev E y = some (.int yk b)) (h0 : 0 ≤ b) :
    VO X E L ⟨some d, .binOp .shr xt x y yt, ty, pos, after, g⟩ (.int k (a.fdiv (2 ^ min b.toNat k.bits))) :=
  ⟨fun c => by simp, fun a' w s => by simp [execOp, s.eval hx, s.eval hy, Sem.run_bind, Sem.run_pure, run_eqGuard_int, binOp, Op.shift, show ¬ b < 0 by omega]⟩
theorem V.negW :
    VO X E L ⟨some d, .unOp .neg xt x, ty, pos, after, g⟩ (.int k (k.wrap (0 - a))) :=
  ⟨fun c => by simp, fun a' w s => by simp [execOp, s.eval hx, Op.unary, Op.intArith, Sem.run_bind, Sem.run_pure]⟩
end
theorem V.neg {a : Int} {xt : TypeId} (hx : ev E x = some (.int .i64 a)) (hb : -9223372036854775807 ≤ a ∧ a ≤ 9223372036854775807) :
    VO X E L ⟨some d, .unOp .neg xt x, ty, pos, after, g⟩ (.int .i64 (-a)) :=
  by have h := V.negW (X := X) (E := E) (L := L) (d := d) (ty := ty) (pos := pos) (after := after) (xt := xt) (g := g) hx; rwa [wrap_in (by omega), show (0 : Int) - a = -a by omega] at h
end

/-! ### 4. Slicing -/
section
variable {X : Cx} {E : Env} {L K : List Ch} {ops : Array Oper} {rest : List Oper} {Q : Post} {d : Nat} {ty t e : TypeId} {pos : String} {after : Array Edge} {x y y' : Operand} {A : Option Addr} {α : Type} {N : Enc α} {ys zs : List α} {c : Nat}
/-- The slice over A is cut behind ys; it keeps room for c'. -/
inductive SliceTo (L : List Ch) (A : Option Addr) (N : Enc α) (c c' : Nat) (ys zs : List α) : List Ch → Prop
  | mk {e : TypeId} {K : List Ch} (hr : Rem L (rowE N e A c (ys ++ zs)) K) : SliceTo L A N c c' ys zs (rowE N e A c' ys :: K)
theorem OwnRow.cut {w : World} {e : TypeId} {c c' : Nat} {A : Option Addr} (h : OwnRow w e N.k A c (ys ++ zs).length (N.row (ys ++ zs))) (h1 : ys.length ≤ c') (h2 : c' ≤ c) : OwnRow w e N.k A c' ys.length (N.row ys) := by
  refine ⟨N.row_length ys, ?_⟩
  rcases h.2 with ⟨rfl, rfl, hn⟩ | ⟨g, cur, rfl, hg, hnc, hcm, hcs, ht⟩
  · exact .inl ⟨rfl, by omega, by simp at hn; simp [hn.1]⟩
  · refine .inr ⟨g, cur, rfl, hg, h1, by omega, Nat.le_trans (Nat.mul_le_mul_right _ h2) hcs, ?_⟩
    have e1 : cur.toList.take (ys.length * N.k) = (cur.toList.take ((ys ++ zs).length * N.k)).take (ys.length * N.k) := by
      rw [List.take_take, Nat.min_eq_left (Nat.mul_le_mul_right _ (by simp))]
    rw [e1, ht, N.row_append, ← N.row_length]
    exact List.take_left
theorem run_slice_plain {P : Program} {w : World} {A : Option Addr} {n c m h : Nat} {hi mx : Option Value} (ht : P.underlying t = some (.slice e)) {k : Nat} (hk : (P.info? e).map (·.size) = some k) (hb : (Instr.sliceBounds true n c none hi mx).run P w = .ok (0, h, m) w) :
    (Instr.sliceAt t (.slice A n c) none hi mx).run P w = .ok (.slice A h m) w := by
  have hA : (if m = 0 then A else A.map (fun a => a.add (0 * k))) = A := by
    split
    · rfl
    · cases A <;> simp [Addr.add]
  simp only [Instr.sliceAt, Instr.slice, Sem.run_bind, run_underlying ht, Result.andThen_ok, hb, run_sizeOf' hk, Sem.run_pure, hA, Nat.sub_zero]
/-- s[:k], k the length of ys. -/
theorem HO.sliceTo {kk : IntKind} {i : Int} {L2 : List Ch} (ys zs : List α) (ht : X.P.underlying t = some (.slice e)) (hk : (X.P.info? e).map (·.size) = some N.k) (hx : ev E x = some (.slice A (ys ++ zs).length c)) (hy : ev E y = some (.int kk i)) (hi : i = ys.length) (hn : d < X.n)
    (hl : SliceTo L A N c c ys zs L2) (h : HO X ((d, .slice A ys.length c) :: E) L2 ops rest Q) : HO X E L ops (⟨some d, .slice t x none (some y) none, ty, pos, after, none⟩ :: rest) Q := by
  refine HO.gen (ι := Unit) (fun _ => .slice A ys.length c) (fun _ => L2) rfl rfl hn (fun c => by simp) (fun a w s => ?_) (fun _ => h)
  obtain @⟨e', K, hr⟩ := hl
  have hok : OwnRow w e' N.k A c (ys ++ zs).length (N.row (ys ++ zs)) := s.chunk hr
  have hle : ys.length ≤ c := by
    rcases hok.2 with ⟨_, _, hn⟩ | ⟨g, cur, _, _, hnc, _⟩
    · simp at hn; simp [hn.1]
    · simp at hnc; omega
  refine ⟨(), w, ?_, s.ow.step hr (Tch.refl _ _) (hok.cut hle (Nat.le_refl _)) (fun b hb => ⟨s.dom hr b hb, .inl hb⟩) (by cases A <;> simp [rowCh, adom])⟩
  subst hi
  have hb : (Instr.sliceBounds true (ys ++ zs).length c none (some (.int kk (ys.length : Int))) none).run X.P w = .ok (0, ys.length, c) w := by
    simp [Instr.sliceBounds, Instr.sliceBound, asIntOf, Sem.run_bind, Sem.run_pure, hle]
  simp only [execOp, s.eval hx, Option.map_none, Option.map_some, s.eval hy, Sem.run_bind, run_slice_plain ht hk hb, Result.andThen_ok, Sem.run_pure]
/-- s[:k:m], k the length of ys. -/
theorem HO.slice3 {kk kk' : IntKind} {i j : Int} {L2 : List Ch} (ys zs : List α) (m : Nat) (ht : X.P.underlying t = some (.slice e)) (hk : (X.P.info? e).map (·.size) = some N.k) (hx : ev E x = some (.slice A (ys ++ zs).length c)) (hy : ev E y = some (.int kk i)) (hy' : ev E y' = some (.int kk' j)) (hi : i = ys.length) (hj : j = m) (hm : ys.length ≤ m ∧ m ≤ (ys ++ zs).length) (hn : d < X.n)
    (hl : SliceTo L A N c m ys zs L2) (h : HO X ((d, .slice A ys.length m) :: E) L2 ops rest Q) : HO X E L ops (⟨some d, .slice t x none (some y) (some y'), ty, pos, after, none⟩ :: rest) Q := by
  refine HO.gen (ι := Unit) (fun _ => .slice A ys.length m) (fun _ => L2) rfl rfl hn (fun c => by simp) (fun a w s => ?_) (fun _ => h)
  obtain @⟨e', K, hr⟩ := hl
  have hok : OwnRow w e' N.k A c (ys ++ zs).length (N.row (ys ++ zs)) := s.chunk hr
  have hle : m ≤ c := by
    rcases hok.2 with ⟨_, _, hn⟩ | ⟨g, cur, _, _, hnc, _⟩
    · omega
    · omega
  refine ⟨(), w, ?_, s.ow.step hr (Tch.refl _ _) (hok.cut hm.1 hle) (fun b hb => ⟨s.dom hr b hb, .inl hb⟩) (by cases A <;> simp [rowCh, adom])⟩
  subst hi hj
  have hb : (Instr.sliceBounds true (ys ++ zs).length c none (some (.int kk (ys.length : Int))) (some (.int kk' (m : Int)))).run X.P w = .ok (0, ys.length, m) w := by
    simp [Instr.sliceBounds, Instr.sliceBound, asIntOf, Sem.run_bind, Sem.run_pure, hle, hm.1]
  simp only [execOp, s.eval hx, Option.map_none, Option.map_some, s.eval hy, s.eval hy', Sem.run_bind, run_slice_plain ht hk hb, Result.andThen_ok, Sem.run_pure]
/-- What a slice holds, wherever. -/
def HasR (X : Cx) (A : Option Addr) (xs : List Value) : Prop := ∀ L, Has X L A xs
theorem HasR.ro {xs : List Value} (h : roCh A xs ∈ X.R) : HasR X A xs := fun L => Has.ro h
/-- s[i:] of a slice that is only read. -/
theorem HO.sliceFrom {kk : IntKind} {i : Int} (zs ys : List α) (ht : X.P.underlying t = some (.slice e)) (hk : (X.P.info? e).map (·.size) = some N.k) (hx : ev E x = some (.slice A (zs ++ ys).length c)) (hy : ev E y = some (.int kk i)) (hi : i = zs.length) (hc : (zs ++ ys).length ≤ c) (hR : HasR X A (N.row (zs ++ ys))) (hn : d < X.n)
    (h : ∀ A', HasR X A' (N.row ys) → HO X ((d, .slice A' ys.length (c - zs.length)) :: E) L ops rest Q) : HO X E L ops (⟨some d, .slice t x (some y) none none, ty, pos, after, none⟩ :: rest) Q := by
  subst hi
  have hle : zs.length ≤ (zs ++ ys).length := by simp
  refine HO.v (v := .slice (if c = zs.length then A else A.map (·.add (zs.length * N.k))) ys.length (c - zs.length)) ⟨fun c => by simp, fun a w s => ?_⟩ hn (h _ ?_)
  · have hb : (Instr.sliceBounds true (zs ++ ys).length c (some (.int kk (zs.length : Int))) none none).run X.P w = .ok (zs.length, (zs ++ ys).length, c) w := by
      simp [Instr.sliceBounds, Instr.sliceBound, asIntOf, Sem.run_bind, Sem.run_pure]
    have e1 : (zs ++ ys).length - zs.length = ys.length := by simp
    simp only [execOp, s.eval hx, Option.map_none, Option.map_some, s.eval hy, Sem.run_bind, Instr.sliceAt, Instr.slice, run_underlying ht, Result.andThen_ok, hb, run_sizeOf' hk, Sem.run_pure, e1]
  · intro L' w ok ro j v hj
    have hj' : (N.row (zs ++ ys))[zs.length * N.k + j]? = some v := by
      rw [N.row_append, List.getElem?_append_right (by rw [N.row_length]; omega), N.row_length]
      simpa using hj
    obtain ⟨⟨ad, rfl, hs⟩, hcell⟩ := hR L' w ok ro _ v hj'
    have hcne : ¬ c = zs.length := by
      intro e0
      have : ys = [] := List.eq_nil_of_length_eq_zero (by simp at hc; omega)
      subst this
      simp [Enc.row] at hj
    rw [if_neg hcne]
    refine ⟨⟨_, rfl, ?_⟩, ?_⟩
    · unfold Addr.add; split <;> simp [hs]
    · rw [← hcell]
      simp only [Option.map_some, radr, Addr.add]
      by_cases hz : zs.length * N.k = 0
      · simp [hz]
      · simp [hz, Nat.add_assoc]
end

/-- What a slice that is read over nil holds: nothing. -/
theorem Tri.roNil {α : Type} {N : Enc α} {ys : List α} {P : Program} {f : FuncId} {args : Array Value} {A : Option Addr} {R L : List Ch} {post : Value → List Ch → Prop} (hm : roE N A ys ∈ R) (h : (A = none → ys = []) → Tri P f args R L post) : Tri P f args R L post := by
  intro w h1 h2 h3 h4
  refine h (fun hA => ?_) w h1 h2 h3 h4
  cases hys : ys with
  | nil => rfl
  | cons y ys' =>
    have hp := N.pos
    have hrd : Rd w A (N.row ys) := (h1 _ hm).1
    obtain ⟨u, hu⟩ : ∃ u, (N.row ys)[0]? = some u := ⟨_, List.getElem?_eq_getElem (by rw [N.row_length, hys, List.length_cons, Nat.add_mul]; omega)⟩
    obtain ⟨⟨a', ha, _⟩, _⟩ := hrd 0 u hu
    rw [hA] at ha
    cases ha
/-! ### 5. Results in cells; scopes -/
section
variable {X : Cx} {E : Env} {L K L' : List Ch} {fn : Func} {post : Value → List Ch → Prop} {t u v : Nat} {x y z : Value} {e : Exit} {b off : Nat} {T : TypeId} {c : Code} {Q : Post} {id : Nat}
theorem resCell {a : Act} {w : World} {k : Nat} {vs : List Value} (hT : Aggr X.P T k) (s : X.st E L a w) (hx : look E t = some (.pointer (some ⟨b, off, none⟩))) (hl : LoadA L b off k vs) :
    (do loadVar T (← asAddr (a.tmps.getD t undef)) : Sem Value).run X.P w = .ok (.agg vs.toArray) w := by
  obtain ⟨hr, hv⟩ := hl
  have hc : ∀ j v, vs[j]? = some v → w.cell? ((⟨b, off, none⟩ : Addr).add j) = some v := fun j v hj => by
    rw [Addr.add_lit, cell_of (s.chunk hr)]; exact hv.at.2 j v hj
  have hx' : a.tmps.getD t undef = .pointer (some ⟨b, off, none⟩) := s.ag t _ hx
  rw [hx']
  simp only [asAddr, Sem.run_bind, Sem.run_pure, Result.andThen_ok, run_loadVarK hT hv.at.1 hc]
theorem resCell1 {a : Act} {w : World} {v : Value} (hT : Scal X.P T) (s : X.st E L a w) (hx : look E t = some (.pointer (some ⟨b, off, none⟩))) (hl : LoadAt L b off v) :
    (do loadVar T (← asAddr (a.tmps.getD t undef)) : Sem Value).run X.P w = .ok v w := by
  obtain ⟨hr, hv⟩ := hl
  have hc : w.cell? ⟨b, off, none⟩ = some v := (cell_of (s.chunk hr) off).trans hv
  have hx' : a.tmps.getD t undef = .pointer (some ⟨b, off, none⟩) := s.ag t _ hx
  rw [hx']
  simp only [asAddr, Sem.run_bind, Sem.run_pure, Result.andThen_ok, run_loadVar1 hT hc]
/-- What a result variable holds at the end. -/
inductive Res (X : Cx) (E : Env) (L : List Ch) : ResultVar → Value → Prop
  | tmp {t : Nat} {v : Value} (h : look E t = some v) : Res X E L (.tmp t) v
  | agg {t : Nat} {T : TypeId} {k b off : Nat} {vs : List Value} (hT : Aggr X.P T k) (hx : look E t = some (.pointer (some ⟨b, off, none⟩))) (hl : LoadA L b off k vs) : Res X E L (.cell t T) (.agg vs.toArray)
  | one {t : Nat} {T : TypeId} {b off : Nat} {v : Value} (hT : Scal X.P T) (hx : look E t = some (.pointer (some ⟨b, off, none⟩))) (hl : LoadAt L b off v) : Res X E L (.cell t T) v
def resSem (a : Act) : ResultVar → Sem Value
  | .tmp t => pure (a.tmps.getD t undef)
  | .cell ad t => do loadVar t (← asAddr (a.tmps.getD ad undef))
theorem results_eq (fn : Func) (a : Act) : results fn a.tmps = (do let vs ← fn.results.mapM (resSem a); pure (if h : vs.size = 1 then vs[0] else .tuple vs)) := by
  unfold results
  congr 1
theorem Res.run {a : Act} {w : World} {r : ResultVar} {v : Value} (s : X.st E L a w) (h : Res X E L r v) : (resSem a r).run X.P w = .ok v w := by
  cases h with
  | tmp h =>
    show Result.ok (a.tmps.getD _ undef) w = _
    rw [s.ag _ _ h]
  | agg hT hx hl => exact resCell hT s hx hl
  | one hT hx hl => exact resCell1 hT s hx hl
theorem resR1 {a : Act} {w : World} {r1 : ResultVar} (hf : fn.results = #[r1]) (s : X.st E L a w) (h1 : Res X E L r1 x) : (results fn a.tmps).run X.P w = .ok x w := by
  have e1 := h1.run s
  rw [results_eq, hf]
  simp [List.mapM_toArray, List.mapM_cons, Sem.run_bind, Sem.run_map, e1, Sem.run_pure]
theorem resR2 {a : Act} {w : World} {r1 r2 : ResultVar} (hf : fn.results = #[r1, r2]) (s : X.st E L a w) (h1 : Res X E L r1 x) (h2 : Res X E L r2 y) : (results fn a.tmps).run X.P w = .ok (.tuple #[x, y]) w := by
  have e1 := h1.run s
  have e2 := h2.run s
  rw [results_eq, hf]
  simp [List.mapM_toArray, List.mapM_cons, Sem.run_bind, Sem.run_map, e1, e2, Sem.run_pure]
theorem H.scope (hr : X.r = none) (h : H X E L c (Exit.noGoto Q)) : H X E L (.scope c) Q := by
  intro a w s
  have h1 := h a w s
  revert h1
  rw [hr]
  intro h1
  exact wpIn_wide.2 (wp_scope_straight (wpIn_wide.1 h1))
theorem HQ.scope_normal (h : HQ X E L .normal Q) : HQ X E L .normal (Exit.noGoto Q) := h
theorem HQ.scope_ret (h : HQ X E L .ret Q) : HQ X E L .ret (Exit.noGoto Q) := h
theorem HQ.scope_exit (h : HQ X E L (.exit id) Q) : HQ X E L (.exit id) (Exit.noGoto Q) := h
end
end Go.Proofs.Ytcmlghemanjaaaa.Sl
