/- The fold pass as plain functions on instructions: plain forms, what melts, the pass over a list. No conditions. -/
import Derived.Test.YtmkoadgphhkfgaaDoorPgA
import Derived.Test.YtmkoadgphhkfgaaDoorSlF
set_option linter.unusedVariables false
namespace Go.Proofs.YtmkoadgphhkfgaaDoor.Pg
open Go Sl
/-- The m of a number 2 to the m, from 2 to 512; 0: it is none. -/
def pow2 (c : Int) : Int :=
  if c = 2 then 1 else if c = 4 then 2 else if c = 8 then 3 else if c = 16 then 4 else if c = 32 then 5 else if c = 64 then 6 else if c = 128 then 7 else if c = 256 then 8 else if c = 512 then 9 else 0
def fits (c : Int) : Bool := decide (-512 ≤ c) && decide (c ≤ 512)
def plain (i : Ins) : Ins :=
  if i.op = 3 then (if i.a = i.b then ⟨7, i.to, i.a, 0, 1⟩ else i)
  else if i.op = 5 ∨ i.op = 6 then
    (if i.c = 1 then ⟨1, i.to, i.a, 0, 0⟩ else if i.c = -1 then ⟨2, i.to, i.a, 0, 0⟩
     else if pow2 i.c ≠ 0 then (if i.op = 5 then ⟨7, i.to, i.a, 0, pow2 i.c⟩ else ⟨8, i.to, i.a, 0, pow2 i.c⟩) else i)
  else i
def together (f c s d : Int) : Int × Int × Bool :=
  if f = 1 then (s, d, true)
  else if f = 2 then (if s = 1 then (2, 0, true) else if s = 2 then (1, 0, true) else if s = 5 ∨ s = 6 then (s, -d, true) else (0, 0, false))
  else if f = 5 then (if s = 2 then (5, -c, true) else if s = 5 ∧ fits (c * d) = true then (5, c * d, true) else if s = 6 ∧ c.tmod d = 0 then (5, c.tdiv d, true) else if s = 6 ∧ d.tmod c = 0 then (6, d.tdiv c, true) else (0, 0, false))
  else if f = 6 then (if s = 2 then (6, -c, true) else if s = 6 ∧ fits (c * d) = true then (6, c * d, true) else (0, 0, false))
  else if f = 7 then (if s = 7 ∧ c + d ≤ 64 then (7, c + d, true) else if ¬ s = 8 then (0, 0, false) else if c = d then (1, 0, true) else if d < c then (7, c - d, true) else (8, d - c, true))
  else if f = 8 then (if s = 8 ∧ c + d ≤ 64 then (8, c + d, true) else (0, 0, false))
  else (0, 0, false)
def noIns : Ins := ⟨0, 0, 0, 0, 0⟩
def melt (a b : Ins) : Ins × Bool :=
  if b.op = 3 ∨ b.op = 4 ∨ ¬ b.a = a.to ∨ ¬ b.to = a.to then (noIns, false)
  else if (together a.op a.c b.op b.c).2.2 = true then (plain ⟨(together a.op a.c b.op b.c).1, b.to, a.a, 0, (together a.op a.c b.op b.c).2.1⟩, true) else (noIns, false)
theorem mul_bd {c d : Int} (hc : -512 ≤ c ∧ c ≤ 512) (hd : -512 ≤ d ∧ d ≤ 512) : -262144 ≤ c * d ∧ c * d ≤ 262144 := by
  have h1 : c.natAbs ≤ 512 := by omega
  have h2 : d.natAbs ≤ 512 := by omega
  have h3 : (c * d).natAbs ≤ 262144 := by rw [Int.natAbs_mul]; exact Nat.mul_le_mul h1 h2
  omega
theorem tdiv_bd {c : Int} (d : Int) (hc : -512 ≤ c ∧ c ≤ 512) : -512 ≤ c.tdiv d ∧ c.tdiv d ≤ 512 := by
  have h1 : (c.tdiv d).natAbs ≤ c.natAbs := by rw [Int.natAbs_tdiv]; exact Nat.div_le_self _ _
  omega
theorem pow2_bits : ∀ n : Nat, n < 513 → 2 ≤ n → ((ibits .and .i64 n (n - 1 : Int) = 0) ↔ pow2 n ≠ 0) := by decide +kernel
theorem pow2_and {c : Int} (h2 : 2 ≤ c) (h : c ≤ 512) : (ibits .and .i64 c (c - 1) = 0) ↔ pow2 c ≠ 0 := by
  obtain ⟨n, rfl⟩ : ∃ n : Nat, c = n := ⟨c.toNat, by omega⟩
  exact pow2_bits n (by omega) (by omega)
theorem pow2_small {c : Int} (h : c < 2) : pow2 c = 0 := by unfold pow2; repeat (rw [if_neg (by omega)])
theorem pw_yes {c : Int} (h : ibits .and .i64 c (c - 1) = 0) (h2 : 2 ≤ c) (h5 : c ≤ 512) : pow2 c ≠ 0 := (pow2_and h2 h5).1 h
theorem pw_no {c : Int} (h : ¬ ibits .and .i64 c (c - 1) = 0) (h2 : 2 ≤ c) (h5 : c ≤ 512) : pow2 c = 0 := by
  by_cases e : pow2 c = 0
  · exact e
  · exact absurd ((pow2_and h2 h5).2 e) h
theorem pow2_cases {c : Int} (h : pow2 c ≠ 0) : (c = 2 ∧ pow2 c = 1) ∨ (c = 4 ∧ pow2 c = 2) ∨ (c = 8 ∧ pow2 c = 3) ∨ (c = 16 ∧ pow2 c = 4) ∨ (c = 32 ∧ pow2 c = 5) ∨ (c = 64 ∧ pow2 c = 6) ∨ (c = 128 ∧ pow2 c = 7) ∨ (c = 256 ∧ pow2 c = 8) ∨ (c = 512 ∧ pow2 c = 9) := by
  unfold pow2 at h ⊢
  split <;> try (simp_all; done)
  repeat (split at * <;> try (simp_all; done))
theorem pow2_bd (c : Int) : 0 ≤ pow2 c ∧ pow2 c ≤ 9 := by
  by_cases h : pow2 c = 0
  · omega
  · rcases pow2_cases h with h | h | h | h | h | h | h | h | h <;> omega
theorem insL (i j : Ins) : ([i.op, i.to, i.a, i.b, i.c] = [j.op, j.to, j.a, j.b, j.c]) ↔ i = j := by
  constructor
  · intro h
    simp at h
    cases i; cases j
    simp_all
  · intro h; rw [h]
/-- A constant is as it must be beside its operation. -/
abbrev cok (op c : Int) : Bool := constant ⟨op, 0, 0, 0, c⟩
theorem cok_bd {op c : Int} (h : cok op c = true) : -512 ≤ c ∧ c ≤ 512 := by
  simp only [cok, constant] at h
  split at h
  · simp at h; omega
  · split at h
    · simp at h; omega
    · simp at h; omega
theorem cok_nz {op c : Int} (h : cok op c = true) (ho : op = 5 ∨ op = 6) : c ≠ 0 := by
  simp only [cok, constant, if_pos ho] at h
  simp at h
  exact h.1.1
theorem cok_shift {op c : Int} (h : cok op c = true) (ho : op = 7 ∨ op = 8) : 1 ≤ c ∧ c ≤ 64 := by
  simp only [cok, constant, if_neg (show ¬ (op = 5 ∨ op = 6) by omega), if_pos ho] at h
  simpa using h
theorem cok_mk5 {op c : Int} (ho : op = 5 ∨ op = 6) (h0 : c ≠ 0) (h : -512 ≤ c ∧ c ≤ 512) : cok op c = true := by
  simp only [cok, constant, if_pos ho]
  simp [h0, h]
theorem cok_mk7 {op c : Int} (ho : op = 7 ∨ op = 8) (h : 1 ≤ c ∧ c ≤ 64) : cok op c = true := by
  simp only [cok, constant, if_neg (show ¬ (op = 5 ∨ op = 6) by omega), if_pos ho]
  simp [h]
theorem cok_mk0 {op : Int} (ho : ¬ (5 ≤ op ∧ op ≤ 8)) : cok op 0 = true := by
  simp only [cok, constant, if_neg (show ¬ (op = 5 ∨ op = 6) by omega), if_neg (show ¬ (op = 7 ∨ op = 8) by omega)]
  simp
theorem tdiv_nz {c d : Int} (hc : c ≠ 0) (h : c.tmod d = 0) : c.tdiv d ≠ 0 := by
  intro e
  have := Int.mul_tdiv_add_tmod c d
  rw [e, h] at this
  simp at this
  exact hc this.symm
/-- What comes of two operations has a constant as it must be. -/
theorem together_ok {f c s d : Int} (h1 : cok f c = true) (h2 : cok s d = true) (hs : 1 ≤ s ∧ s ≤ 8) (h34 : s ≠ 3 ∧ s ≠ 4) (hr : (together f c s d).2.2 = true) : cok (together f c s d).1 (together f c s d).2.1 = true ∧ 1 ≤ (together f c s d).1 ∧ (together f c s d).1 ≤ 8 ∧ (together f c s d).1 ≠ 3 ∧ (together f c s d).1 ≠ 4 := by
  have b1 := cok_bd h1
  have b2 := cok_bd h2
  unfold together at hr ⊢
  by_cases f1 : f = 1
  · rw [if_pos f1] at hr ⊢
    exact ⟨h2, hs.1, hs.2, h34.1, h34.2⟩
  rw [if_neg f1] at hr ⊢
  by_cases f2 : f = 2
  · rw [if_pos f2] at hr ⊢
    by_cases s1 : s = 1
    · rw [if_pos s1] at hr ⊢; dsimp only; exact ⟨cok_mk0 (by decide), by simp, by simp, by simp, by simp⟩
    rw [if_neg s1] at hr ⊢
    by_cases s2 : s = 2
    · rw [if_pos s2] at hr ⊢; dsimp only; exact ⟨cok_mk0 (by decide), by simp, by simp, by simp, by simp⟩
    rw [if_neg s2] at hr ⊢
    by_cases s56 : s = 5 ∨ s = 6
    · rw [if_pos s56] at hr ⊢
      have := cok_nz h2 s56
      dsimp only
      exact ⟨cok_mk5 s56 (by omega) (by omega), hs.1, hs.2, h34.1, h34.2⟩
    · rw [if_neg s56] at hr; cases hr
  rw [if_neg f2] at hr ⊢
  by_cases f5 : f = 5
  · have n1 := cok_nz h1 (.inl f5)
    rw [if_pos f5] at hr ⊢
    by_cases s2 : s = 2
    · rw [if_pos s2] at hr ⊢; dsimp only; exact ⟨cok_mk5 (.inl rfl) (by omega) (by omega), by simp, by simp, by simp, by simp⟩
    rw [if_neg s2] at hr ⊢
    by_cases s5 : s = 5 ∧ fits (c * d) = true
    · have n2 := cok_nz h2 (.inl s5.1)
      have hf := s5.2
      simp [fits] at hf
      rw [if_pos s5] at hr ⊢; dsimp only; exact ⟨cok_mk5 (.inl rfl) (Int.mul_ne_zero n1 n2) hf, by simp, by simp, by simp, by simp⟩
    rw [if_neg s5] at hr ⊢
    by_cases s6 : s = 6 ∧ c.tmod d = 0
    · rw [if_pos s6] at hr ⊢; dsimp only; exact ⟨cok_mk5 (.inl rfl) (tdiv_nz n1 s6.2) (tdiv_bd d b1), by simp, by simp, by simp, by simp⟩
    rw [if_neg s6] at hr ⊢
    by_cases s7 : s = 6 ∧ d.tmod c = 0
    · have n2 := cok_nz h2 (.inr s7.1)
      rw [if_pos s7] at hr ⊢; dsimp only; exact ⟨cok_mk5 (.inr rfl) (tdiv_nz n2 s7.2) (tdiv_bd c b2), by simp, by simp, by simp, by simp⟩
    · rw [if_neg s7] at hr; cases hr
  rw [if_neg f5] at hr ⊢
  by_cases f6 : f = 6
  · have n1 := cok_nz h1 (.inr f6)
    rw [if_pos f6] at hr ⊢
    by_cases s2 : s = 2
    · rw [if_pos s2] at hr ⊢; dsimp only; exact ⟨cok_mk5 (.inr rfl) (by omega) (by omega), by simp, by simp, by simp, by simp⟩
    rw [if_neg s2] at hr ⊢
    by_cases s6 : s = 6 ∧ fits (c * d) = true
    · have n2 := cok_nz h2 (.inr s6.1)
      have hf := s6.2
      simp [fits] at hf
      rw [if_pos s6] at hr ⊢; dsimp only; exact ⟨cok_mk5 (.inr rfl) (Int.mul_ne_zero n1 n2) hf, by simp, by simp, by simp, by simp⟩
    · rw [if_neg s6] at hr; cases hr
  rw [if_neg f6] at hr ⊢
  by_cases f7 : f = 7
  · have n1 := cok_shift h1 (.inl f7)
    rw [if_pos f7] at hr ⊢
    by_cases s7 : s = 7 ∧ c + d ≤ 64
    · have n2 := cok_shift h2 (.inl s7.1)
      rw [if_pos s7] at hr ⊢; dsimp only; exact ⟨cok_mk7 (.inl rfl) (by omega), by simp, by simp, by simp, by simp⟩
    rw [if_neg s7] at hr ⊢
    by_cases s8 : ¬ s = 8
    · rw [if_pos s8] at hr; cases hr
    rw [if_neg s8] at hr ⊢
    have n2 := cok_shift h2 (.inr (by omega))
    by_cases e : c = d
    · rw [if_pos e] at hr ⊢; dsimp only; exact ⟨cok_mk0 (by decide), by simp, by simp, by simp, by simp⟩
    rw [if_neg e] at hr ⊢
    by_cases e2 : d < c
    · rw [if_pos e2] at hr ⊢; dsimp only; exact ⟨cok_mk7 (.inl rfl) (by omega), by simp, by simp, by simp, by simp⟩
    · rw [if_neg e2] at hr ⊢; dsimp only; exact ⟨cok_mk7 (.inr rfl) (by omega), by simp, by simp, by simp, by simp⟩
  rw [if_neg f7] at hr ⊢
  by_cases f8 : f = 8
  · have n1 := cok_shift h1 (.inr f8)
    rw [if_pos f8] at hr ⊢
    by_cases s8 : s = 8 ∧ c + d ≤ 64
    · have n2 := cok_shift h2 (.inr s8.1)
      rw [if_pos s8] at hr ⊢; dsimp only; exact ⟨cok_mk7 (.inr rfl) (by omega), by simp, by simp, by simp, by simp⟩
    · rw [if_neg s8] at hr; cases hr
  · rw [if_neg f8] at hr; cases hr
def meltX (a b : Ins) : Ins × Bool := if plain a = a ∧ plain b = b then melt a b else (noIns, false)
/-- It does nothing. -/
def selfm (b : Ins) : Bool := b.op = 1 && b.to = b.a
/-- The pass, one instruction more: the list is turned round. -/
def meltR : List Ins → Ins → List Ins
  | [], b => if selfm b = true then [] else [b]
  | x :: r, b => if selfm b = true then x :: r else if (melt x b).2 = true then meltR r (melt x b).1 else b :: x :: r
def meltF (l : List Ins) (b : Ins) : List Ins := (meltR l.reverse b).reverse
theorem meltF_self {l : List Ins} {b : Ins} (h : selfm b = true) : meltF l b = l := by
  unfold meltF
  cases hl : l.reverse with
  | nil => simp [meltR, h]; simpa using hl.symm
  | cons x r => simp only [meltR, h, if_true]; rw [← hl]; simp
theorem meltF_nil {b : Ins} (h : ¬ selfm b = true) : meltF [] b = [b] := by simp [meltF, meltR, h]
theorem meltF_no {l : List Ins} {x b : Ins} (h : ¬ selfm b = true) (hm : ¬ (melt x b).2 = true) : meltF (l ++ [x]) b = l ++ [x] ++ [b] := by simp [meltF, meltR, h, hm]
theorem meltF_yes {l : List Ins} {x b : Ins} (h : ¬ selfm b = true) (hm : (melt x b).2 = true) : meltF (l ++ [x]) b = meltF l (melt x b).1 := by simp [meltF, meltR, h, hm]
def passF (code : List Ins) : List Ins := code.foldl (fun l i => meltF l (plain i)) []
theorem passF_snoc (code : List Ins) (i : Ins) : passF (code ++ [i]) = meltF (passF code) (plain i) := by simp [passF]
theorem exists_concat {l : List Ins} (h : l ≠ []) : ∃ l' x, l = l' ++ [x] := ⟨l.dropLast, l.getLast h, (List.dropLast_concat_getLast h).symm⟩
theorem last_at {α : Type} (l : List α) (x : α) : (l ++ [x])[((((l ++ [x]).length : Nat) : Int) - 1).toNat]? = some x := by
  have e : ((((l ++ [x]).length : Nat) : Int) - 1).toNat = l.length := by simp
  rw [e]; simp
theorem take_snoc {α : Type} {l : List α} {k : Nat} {x : α} (h : l[k]? = some x) : l.take (k + 1) = l.take k ++ [x] := by rw [List.take_add_one, h]; rfl
theorem two_iff (op : Int) : two op = true ↔ op = 3 ∨ op = 4 := by simp [two]
theorem asks_one' {i : Ins} (h : ¬ (i.op = 3 ∨ i.op = 4)) (h1 : 1 ≤ i.op) (h8 : i.op ≤ 8) : asks i = [i.a] := by unfold asks; rw [if_neg h, if_pos ⟨h1, h8⟩]
/-- An instruction that asks one register may be. -/
theorem May.one {op to a c regs : Int} (h1 : 1 ≤ op) (h8 : op ≤ 8) (h3 : op ≠ 3) (h4 : op ≠ 4) (ht : 0 ≤ to ∧ to < regs) (ha : 0 ≤ a ∧ a < regs) (hc : cok op c = true) : May ⟨op, to, a, 0, c⟩ regs := by
  refine ⟨h1, h8, ht.1, ht.2, fun _ => rfl, hc, ?_⟩
  rw [asks_one' (i := ⟨op, to, a, 0, c⟩) (by simp; omega) h1 h8]
  intro r hr
  simp at hr
  subst hr
  exact ha
theorem May.a {i : Ins} {regs : Int} (h : May i regs) : 0 ≤ i.a ∧ i.a < regs := by
  refine h.asks _ ?_
  unfold Pg.asks
  split
  · simp
  · rw [if_pos ⟨h.op1, h.op8⟩]; simp
theorem May.mono {i : Ins} {r r' : Int} (h : May i r) (hr : r ≤ r') : May i r' :=
  ⟨h.op1, h.op8, h.to0, Int.lt_of_lt_of_le h.to1 hr, h.b, h.c, fun x hx => ⟨(h.asks x hx).1, Int.lt_of_lt_of_le (h.asks x hx).2 hr⟩⟩
theorem plain_may {i : Ins} {regs : Int} (h : May i regs) : May (plain i) regs := by
  have ht := And.intro h.to0 h.to1
  have hc : cok i.op i.c = true := h.c
  unfold plain
  split
  · split
    · exact May.one (by decide) (by decide) (by decide) (by decide) ht h.a (cok_mk7 (.inl rfl) (by decide))
    · exact h
  · split
    · rename_i h3 h56
      split
      · exact May.one (by decide) (by decide) (by decide) (by decide) ht h.a (cok_mk0 (by decide))
      · split
        · exact May.one (by decide) (by decide) (by decide) (by decide) ht h.a (cok_mk0 (by decide))
        · split
          · rename_i hp
            have hb := pow2_bd i.c
            split
            · exact May.one (by decide) (by decide) (by decide) (by decide) ht h.a (cok_mk7 (.inl rfl) (by omega))
            · exact May.one (by decide) (by decide) (by decide) (by decide) ht h.a (cok_mk7 (.inr rfl) (by omega))
          · exact h
    · exact h
theorem melt_may {a b : Ins} {regs : Int} (ha : May a regs) (hb : May b regs) (h : (melt a b).2 = true) : May (melt a b).1 regs := by
  have hca : cok a.op a.c = true := ha.c
  have hcb : cok b.op b.c = true := hb.c
  unfold melt at h ⊢
  split at h
  · cases h
  · rename_i hn
    rw [if_neg hn]
    split at h
    · rename_i ht
      rw [if_pos ht]
      have hk := together_ok hca hcb ⟨hb.op1, hb.op8⟩ (by omega) ht
      exact plain_may (May.one hk.2.1 hk.2.2.1 hk.2.2.2.1 hk.2.2.2.2 ⟨hb.to0, hb.to1⟩ ha.a hk.1)
    · cases h
theorem meltR_may {regs : Int} : ∀ (r : List Ins) (b : Ins), (∀ x ∈ r, May x regs) → May b regs → ∀ x ∈ meltR r b, May x regs := by
  intro r
  induction r with
  | nil => intro b _ hb x hx; simp only [meltR] at hx; split at hx <;> simp at hx; subst hx; exact hb
  | cons y r ih =>
    intro b hr hb x hx
    simp only [meltR] at hx
    split at hx
    · exact hr x hx
    · split at hx
      · rename_i hm; exact ih _ (fun z hz => hr z (List.mem_cons_of_mem _ hz)) (melt_may (hr y (List.mem_cons_self ..)) hb hm) x hx
      · rcases List.mem_cons.1 hx with rfl | hx
        · exact hb
        · exact hr x hx
theorem meltF_may {regs : Int} {l : List Ins} {b : Ins} (hl : ∀ x ∈ l, May x regs) (hb : May b regs) : ∀ x ∈ meltF l b, May x regs := by
  intro x hx
  exact meltR_may l.reverse b (fun y hy => hl y (by simpa using hy)) hb x (by simpa [meltF] using hx)
theorem meltR_length : ∀ (r : List Ins) (b : Ins), (meltR r b).length ≤ r.length + 1 := by
  intro r
  induction r with
  | nil => intro b; simp only [meltR]; split <;> simp
  | cons y r ih => intro b; simp only [meltR]; split; simp; split; (have := ih (melt y b).1; simp; omega); simp
theorem passF_length (code : List Ins) : (passF code).length ≤ code.length := by
  suffices h : ∀ n, n ≤ code.length → (passF (code.take n)).length ≤ n by have := h code.length (Nat.le_refl _); simpa using this
  intro n
  induction n with
  | zero => intro _; simp [passF]
  | succ n ih =>
    intro hn
    have hx : code[n]? = some code[n] := List.getElem?_eq_getElem (by omega)
    rw [take_snoc hx, passF_snoc]
    have h1 := ih (by omega)
    have h2 := meltR_length (passF (code.take n)).reverse (plain code[n])
    simp only [meltF, List.length_reverse] at h2 ⊢
    omega
theorem passF_may {code : List Ins} {regs : Int} (h : ∀ i ∈ code, May i regs) : ∀ i ∈ passF code, May i regs := by
  suffices k : ∀ n, n ≤ code.length → ∀ i ∈ passF (code.take n), May i regs by have := k code.length (Nat.le_refl _); simpa using this
  intro n
  induction n with
  | zero => intro _ i hi; simp [passF] at hi
  | succ n ih =>
    intro hn
    have hx : code[n]? = some code[n] := List.getElem?_eq_getElem (by omega)
    rw [take_snoc hx, passF_snoc]
    exact meltF_may (ih (by omega)) (plain_may (h _ (List.getElem_mem _)))
def tab64 : List Int := [0, 1, 56, 2, 57, 49, 28, 3, 61, 58, 42, 50, 38, 29, 17, 4, 62, 47, 59, 36, 45, 43, 51, 22, 53, 39, 33, 30, 24, 18, 12, 5, 63, 55, 48, 27, 60, 41, 37, 16, 46, 35, 44, 21, 52, 32, 23, 11, 54, 26, 40, 15, 34, 20, 31, 10, 25, 14, 19, 9, 13, 8, 7, 6]
end Go.Proofs.YtmkoadgphhkfgaaDoor.Pg
