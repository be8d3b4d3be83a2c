/- The table of plain forms, by hand, as plain functions: drawn instructions; counting twos; lists that are equal. No conditions. -/
import Derived.Test.YtmkoadgphhkfgaaDoorPgB
set_option linter.unusedVariables false
namespace Go.Proofs.YtmkoadgphhkfgaaDoor.Pg
open Go Sl
/-- A drawn instruction: five small numbers. -/
structure Trn where
  op : Int
  to : Int
  a : Int
  b : Int
  c : Int
  deriving DecidableEq
def Trn.Ok (x : Trn) : Prop := (0 ≤ x.op ∧ x.op ≤ 255) ∧ (0 ≤ x.to ∧ x.to ≤ 255) ∧ (0 ≤ x.a ∧ x.a ≤ 255) ∧ (0 ≤ x.b ∧ x.b ≤ 255) ∧ (0 ≤ x.c ∧ x.c ≤ 255)
abbrev vTr (x : Trn) : Value := .agg #[.int .u8 x.op, .int .u8 x.to, .int .u8 x.a, .int .u8 x.b, .int .u8 x.c]
def encTr : Enc Trn := ⟨5, fun i => [.int .u8 i.op, .int .u8 i.to, .int .u8 i.a, .int .u8 i.b, .int .u8 i.c], fun _ => rfl, by decide, fun _ => rfl⟩
def tab16 : List Int := [1, -1, 2, -2, 3, 4, 6, -6, 12, 64, 512, -512, 30, 511, -3, 5]
def tab5 : List Int := [1, 2, 3, 40, 64]
theorem tmod_bd {x : Int} (h : 0 ≤ x) (n : Int) (hn : 0 < n) : 0 ≤ x.tmod n ∧ x.tmod n < n := ⟨Int.tmod_nonneg _ h, Int.tmod_lt_of_pos _ hn⟩
def op13 (x : Trn) : Int := 1 + x.op.tmod 8
def b13 (x : Trn) : Int := if op13 x = 3 ∨ op13 x = 4 then x.b.tmod 3 else 0
def c13 (x : Trn) : Int := if op13 x = 3 ∨ op13 x = 4 then 0 else if op13 x = 5 ∨ op13 x = 6 then tab16.getD (x.c.tmod 16).toNat 0 else if 6 < op13 x then tab5.getD (x.c.tmod 5).toNat 0 else 0
def instr13 (x : Trn) : Ins := ⟨op13 x, x.to.tmod 3, x.a.tmod 3, b13 x, c13 x⟩
theorem tab16_at {i : Int} (h : 0 ≤ i ∧ i < 16) : tab16[i.toNat]? = some (tab16.getD i.toNat 0) := by
  rw [List.getD_eq_getElem?_getD, List.getElem?_eq_getElem (by simp [tab16]; omega)]; rfl
theorem tab5_at {i : Int} (h : 0 ≤ i ∧ i < 5) : tab5[i.toNat]? = some (tab5.getD i.toNat 0) := by
  rw [List.getD_eq_getElem?_getD, List.getElem?_eq_getElem (by simp [tab5]; omega)]; rfl
theorem tab16_ok (n : Nat) (h : n < 16) : tab16.getD n 0 ≠ 0 ∧ -512 ≤ tab16.getD n 0 ∧ tab16.getD n 0 ≤ 512 := by
  revert n; decide
theorem tab5_ok (n : Nat) (h : n < 5) : 1 ≤ tab5.getD n 0 ∧ tab5.getD n 0 ≤ 64 := by
  revert n; decide
theorem instr13_may {x : Trn} (h : x.Ok) : May (instr13 x) 3 := by
  obtain ⟨h1, h2, h3, h4, h5⟩ := h
  have o := tmod_bd h1.1 8 (by decide)
  have t := tmod_bd h2.1 3 (by decide)
  have a := tmod_bd h3.1 3 (by decide)
  have b := tmod_bd h4.1 3 (by decide)
  have k16 := tmod_bd h5.1 16 (by decide)
  have k5 := tmod_bd h5.1 5 (by decide)
  refine ⟨by simp only [instr13, op13]; omega, by simp only [instr13, op13]; omega, t.1, t.2, ?_, ?_, ?_⟩
  · intro hh
    have : ¬ (op13 x = 3 ∨ op13 x = 4) := by
      intro hcon
      rw [(two_iff _).2 (show (instr13 x).op = 3 ∨ (instr13 x).op = 4 from hcon)] at hh; cases hh
    simp [instr13, b13, this]
  · have e : constant (instr13 x) = cok (op13 x) (c13 x) := rfl
    rw [e]
    unfold c13
    split
    · exact cok_mk0 (by omega)
    · split
      · have := tab16_ok (x.c.tmod 16).toNat (by omega)
        exact cok_mk5 (by assumption) this.1 this.2
      · split
        · have := tab5_ok (x.c.tmod 5).toNat (by omega)
          exact cok_mk7 (by simp only [op13] at *; omega) this
        · exact cok_mk0 (by omega)
  · intro r hr
    simp only [asks] at hr
    split at hr
    · rename_i hh
      have hb : b13 x = x.b.tmod 3 := by unfold b13; exact if_pos hh
      simp [instr13, hb] at hr
      omega
    · split at hr
      · simp [instr13] at hr; omega
      · simp at hr
/-- So many twos were taken out of c: c is a power of two, or none, and how many. -/
theorem twos_yes {c n : Int} {two : Nat} (hc : -512 ≤ c ∧ c ≤ 512) (h : c = n * 2 ^ two) (h9 : two ≤ 9) (hn : ¬ (1 < n ∧ n.tmod 2 = 0)) (h1 : 1 < c) (e : c = 2 ^ two) : pow2 c ≠ 0 ∧ pow2 c = two := by
  have : two = 0 ∨ two = 1 ∨ two = 2 ∨ two = 3 ∨ two = 4 ∨ two = 5 ∨ two = 6 ∨ two = 7 ∨ two = 8 ∨ two = 9 := by omega
  rcases this with rfl | rfl | rfl | rfl | rfl | rfl | rfl | rfl | rfl | rfl <;> simp at e <;> subst e <;> first | (exfalso; omega) | decide
theorem twos_no {c n : Int} {two : Nat} (hc : -512 ≤ c ∧ c ≤ 512) (h : c = n * 2 ^ two) (h9 : two ≤ 9) (hn : ¬ (1 < n ∧ n.tmod 2 = 0)) (e : ¬ (1 < c ∧ c = 2 ^ two)) : pow2 c = 0 := by
  by_cases hp : pow2 c = 0
  · exact hp
  · exfalso
    have h2 : 0 ≤ n → n.tmod 2 = n % 2 := fun h0 => Int.tmod_eq_emod_of_nonneg h0
    have : two = 0 ∨ two = 1 ∨ two = 2 ∨ two = 3 ∨ two = 4 ∨ two = 5 ∨ two = 6 ∨ two = 7 ∨ two = 8 ∨ two = 9 := by omega
    rcases pow2_cases hp with ⟨rfl, _⟩ | ⟨rfl, _⟩ | ⟨rfl, _⟩ | ⟨rfl, _⟩ | ⟨rfl, _⟩ | ⟨rfl, _⟩ | ⟨rfl, _⟩ | ⟨rfl, _⟩ | ⟨rfl, _⟩ <;>
      rcases this with rfl | rfl | rfl | rfl | rfl | rfl | rfl | rfl | rfl | rfl <;> simp at h e <;> omega
def scaled (to a n d : Int) : Ins × Bool :=
  if n.tmod d = 0 then (if fits (n.tdiv d) = true then (⟨5, to, a, 0, n.tdiv d⟩, true) else (noIns, false))
  else if d.tmod n = 0 then (if fits (d.tdiv n) = true then (⟨6, to, a, 0, d.tdiv n⟩, true) else (noIns, false))
  else (noIns, false)
def shifted (to a n : Int) : Ins × Bool :=
  if n = 0 then (⟨1, to, a, 0, 0⟩, true) else if 64 < n ∨ n < -64 then (noIns, false) else if 0 < n then (⟨7, to, a, 0, n⟩, true) else (⟨8, to, a, 0, -n⟩, true)
theorem twos_round {c n : Int} {two : Nat} (hc : -512 ≤ c ∧ c ≤ 512) (h : c = n * 2 ^ two) (h9 : two ≤ 9) (h1 : 1 < n) (h2 : n.tmod 2 = 0) : c = n.tdiv 2 * 2 ^ (two + 1) ∧ two + 1 ≤ 9 ∧ 1 ≤ n.tdiv 2 ∧ n.tdiv 2 < n := by
  have e1 : n.tmod 2 = n % 2 := Int.tmod_eq_emod_of_nonneg (by omega)
  have e2 : n.tdiv 2 = n / 2 := Int.tdiv_eq_ediv_of_nonneg (by omega)
  rw [e2]
  have : two = 0 ∨ two = 1 ∨ two = 2 ∨ two = 3 ∨ two = 4 ∨ two = 5 ∨ two = 6 ∨ two = 7 ∨ two = 8 ∨ two = 9 := by omega
  rcases this with rfl | rfl | rfl | rfl | rfl | rfl | rfl | rfl | rfl | rfl <;> simp at h ⊢ <;> omega
theorem shl_two {two : Nat} (h : two ≤ 9) : IntKind.i64.wrap (1 * 2 ^ min ((two : Nat) : Int).toNat IntKind.i64.bits) = 2 ^ two := by
  have : two = 0 ∨ two = 1 ∨ two = 2 ∨ two = 3 ∨ two = 4 ∨ two = 5 ∨ two = 6 ∨ two = 7 ∨ two = 8 ∨ two = 9 := by omega
  rcases this with rfl | rfl | rfl | rfl | rfl | rfl | rfl | rfl | rfl | rfl <;> decide
def raw13 (a b : Ins) : Ins × Bool :=
  if a.op = 1 then (⟨b.op, b.to, a.a, b.b, b.c⟩, true)
  else if a.op = 2 then (if b.op = 1 then (a, true) else if b.op = 2 then (⟨1, a.to, a.a, 0, 0⟩, true) else if b.op = 5 ∨ b.op = 6 then (⟨b.op, a.to, a.a, 0, -b.c⟩, true) else (noIns, false))
  else if a.op = 5 then (if b.op = 2 then (⟨a.op, a.to, a.a, 0, -a.c⟩, true) else if b.op = 5 then scaled a.to a.a (a.c * b.c) 1 else if b.op = 6 then scaled a.to a.a a.c b.c else (noIns, false))
  else if a.op = 6 then (if b.op = 2 then (⟨a.op, a.to, a.a, 0, -a.c⟩, true) else if b.op = 6 ∧ -512 ≤ a.c * b.c ∧ a.c * b.c ≤ 512 then (⟨6, a.to, a.a, 0, a.c * b.c⟩, true) else (noIns, false))
  else if a.op = 7 then (if b.op = 7 then shifted a.to a.a (a.c + b.c) else if b.op = 8 then shifted a.to a.a (a.c - b.c) else (noIns, false))
  else if a.op = 8 ∧ b.op = 8 then shifted a.to a.a (-a.c - b.c)
  else (noIns, false)
def melt13 (a b : Ins) : Ins × Bool :=
  if b.op = 3 ∨ b.op = 4 ∨ ¬ b.a = a.to ∨ ¬ b.to = a.to then (noIns, false)
  else if (raw13 a b).2 = true then (plain (raw13 a b).1, true) else (noIns, false)
theorem tdivL_bd {c : Int} (d : Int) (hc : -1000000 ≤ c ∧ c ≤ 1000000) : -1000000 ≤ c.tdiv d ∧ c.tdiv d ≤ 1000000 := by
  have h1 : (c.tdiv d).natAbs ≤ c.natAbs := by rw [Int.natAbs_tdiv]; exact Nat.div_le_self _ _
  omega
theorem fits_iff (c : Int) : fits c = true ↔ -512 ≤ c ∧ c ≤ 512 := by simp [fits]
/-- What comes of two by hand may be. -/
theorem raw13_ok {a b : Ins} {regs : Int} (ha : May a regs) (hb : May b regs) (hn : ¬ (b.op = 3 ∨ b.op = 4 ∨ ¬ b.a = a.to ∨ ¬ b.to = a.to)) (h : (raw13 a b).2 = true) : May (raw13 a b).1 regs := by
  have hca : cok a.op a.c = true := ha.c
  have hcb : cok b.op b.c = true := hb.c
  have bca := cok_bd hca
  have bcb := cok_bd hcb
  have ta := And.intro ha.to0 ha.to1
  have aa := ha.a
  have ob := And.intro hb.op1 hb.op8
  have e0 : b.b = 0 := hb.b (by
    cases h2 : two b.op with
    | false => rfl
    | true => have := (two_iff _).1 h2; omega)
  have hS : ∀ n d, n ≠ 0 → d ≠ 0 → (scaled a.to a.a n d).2 = true → May (scaled a.to a.a n d).1 regs := by
    intro n d hn0 hd0 h
    unfold scaled at h ⊢
    split at h
    · rename_i hm
      split at h
      · rename_i hf
        rw [if_pos hm, if_pos hf]
        exact May.one (by decide) (by decide) (by decide) (by decide) ta aa (cok_mk5 (.inl rfl) (tdiv_nz hn0 hm) ((fits_iff _).1 hf))
      · cases h
    · rename_i hm
      split at h
      · rename_i hm2
        split at h
        · rename_i hf
          rw [if_neg hm, if_pos hm2, if_pos hf]
          exact May.one (by decide) (by decide) (by decide) (by decide) ta aa (cok_mk5 (.inr rfl) (tdiv_nz hd0 hm2) ((fits_iff _).1 hf))
        · cases h
      · cases h
  have hT : ∀ n, (shifted a.to a.a n).2 = true → May (shifted a.to a.a n).1 regs := by
    intro n h
    unfold shifted at h ⊢
    by_cases h0 : n = 0
    · rw [if_pos h0]; exact May.one (by decide) (by decide) (by decide) (by decide) ta aa (cok_mk0 (by decide))
    rw [if_neg h0] at h ⊢
    by_cases h1 : 64 < n ∨ n < -64
    · rw [if_pos h1] at h; cases h
    rw [if_neg h1] at h ⊢
    by_cases h2 : 0 < n
    · rw [if_pos h2]; exact May.one (by decide) (by decide) (by decide) (by decide) ta aa (cok_mk7 (.inl rfl) (by omega))
    · rw [if_neg h2]; exact May.one (by decide) (by decide) (by decide) (by decide) ta aa (cok_mk7 (.inr rfl) (by omega))
  unfold raw13 at h ⊢
  by_cases f1 : a.op = 1
  · rw [if_pos f1, e0]; exact May.one ob.1 ob.2 (by omega) (by omega) ⟨hb.to0, hb.to1⟩ aa hcb
  rw [if_neg f1] at h ⊢
  by_cases f2 : a.op = 2
  · rw [if_pos f2] at h ⊢
    by_cases s1 : b.op = 1
    · rw [if_pos s1]; exact ha
    rw [if_neg s1] at h ⊢
    by_cases s2 : b.op = 2
    · rw [if_pos s2]; exact May.one (by decide) (by decide) (by decide) (by decide) ta aa (cok_mk0 (by decide))
    rw [if_neg s2] at h ⊢
    by_cases s5 : b.op = 5 ∨ b.op = 6
    · have := cok_nz hcb s5
      rw [if_pos s5]; exact May.one (by omega) (by omega) (by omega) (by omega) ta aa (cok_mk5 s5 (by omega) (by omega))
    · rw [if_neg s5] at h; cases h
  rw [if_neg f2] at h ⊢
  by_cases f5 : a.op = 5
  · have n1 := cok_nz hca (.inl f5)
    rw [if_pos f5] at h ⊢
    by_cases s2 : b.op = 2
    · rw [if_pos s2]; exact May.one (by omega) (by omega) (by omega) (by omega) ta aa (cok_mk5 (.inl f5) (by omega) (by omega))
    rw [if_neg s2] at h ⊢
    by_cases s5 : b.op = 5
    · rw [if_pos s5] at h ⊢; exact hS _ _ (Int.mul_ne_zero n1 (cok_nz hcb (.inl s5))) (by decide) h
    rw [if_neg s5] at h ⊢
    by_cases s6 : b.op = 6
    · rw [if_pos s6] at h ⊢; exact hS _ _ n1 (cok_nz hcb (.inr s6)) h
    · rw [if_neg s6] at h; cases h
  rw [if_neg f5] at h ⊢
  by_cases f6 : a.op = 6
  · have n1 := cok_nz hca (.inr f6)
    rw [if_pos f6] at h ⊢
    by_cases s2 : b.op = 2
    · rw [if_pos s2]; exact May.one (by omega) (by omega) (by omega) (by omega) ta aa (cok_mk5 (.inr f6) (by omega) (by omega))
    rw [if_neg s2] at h ⊢
    by_cases s6 : b.op = 6 ∧ -512 ≤ a.c * b.c ∧ a.c * b.c ≤ 512
    · rw [if_pos s6]; exact May.one (by decide) (by decide) (by decide) (by decide) ta aa (cok_mk5 (.inr rfl) (Int.mul_ne_zero n1 (cok_nz hcb (.inr s6.1))) s6.2)
    · rw [if_neg s6] at h; cases h
  rw [if_neg f6] at h ⊢
  by_cases f7 : a.op = 7
  · rw [if_pos f7] at h ⊢
    by_cases s7 : b.op = 7
    · rw [if_pos s7] at h ⊢; exact hT _ h
    rw [if_neg s7] at h ⊢
    by_cases s8 : b.op = 8
    · rw [if_pos s8] at h ⊢; exact hT _ h
    · rw [if_neg s8] at h; cases h
  rw [if_neg f7] at h ⊢
  by_cases f8 : a.op = 8 ∧ b.op = 8
  · rw [if_pos f8] at h ⊢; exact hT _ h
  · rw [if_neg f8] at h; cases h
/-- What melts by hand is what melts. -/
theorem melt13_eq {a b : Ins} {regs : Int} (ha : May a regs) (hb : May b regs) : melt13 a b = melt a b := by
  have hca : cok a.op a.c = true := ha.c
  have hcb : cok b.op b.c = true := hb.c
  have bca := cok_bd hca
  have bcb := cok_bd hcb
  have q1 := tdiv_bd b.c bca
  have q2 := tdiv_bd a.c bcb
  unfold melt13 melt
  by_cases hn : (b.op = 3 ∨ b.op = 4 ∨ ¬ b.a = a.to ∨ ¬ b.to = a.to)
  · rw [if_pos hn, if_pos hn]
  rw [if_neg hn, if_neg hn]
  have e0 : b.b = 0 := hb.b (by
    cases h2 : two b.op with
    | false => rfl
    | true => have := (two_iff _).1 h2; omega)
  have et : b.to = a.to := by omega
  suffices hs : (raw13 a b).2 = (together a.op a.c b.op b.c).2.2 ∧ ((raw13 a b).2 = true → (raw13 a b).1 = ⟨(together a.op a.c b.op b.c).1, b.to, a.a, 0, (together a.op a.c b.op b.c).2.1⟩) by
    rw [← hs.1]
    by_cases hr : (raw13 a b).2 = true
    · rw [if_pos hr, if_pos hr, hs.2 hr]
    · rw [if_neg hr, if_neg hr]
  rw [et]
  unfold raw13 together
  by_cases f1 : a.op = 1
  · rw [if_pos f1, if_pos f1, e0, et]; exact ⟨rfl, fun _ => rfl⟩
  rw [if_neg f1, if_neg f1]
  by_cases f2 : a.op = 2
  · rw [if_pos f2, if_pos f2]
    by_cases s1 : b.op = 1
    · have ea : a.b = 0 := ha.b (by rw [f2]; decide)
      have ec : a.c = 0 := by
        have : cok 2 a.c = true := by rw [← f2]; exact hca
        simpa [cok, constant] using this
      rw [if_pos s1, if_pos s1]; exact ⟨rfl, fun _ => by dsimp only; cases a; simp_all⟩
    rw [if_neg s1, if_neg s1]
    by_cases s2 : b.op = 2
    · rw [if_pos s2, if_pos s2]; exact ⟨rfl, fun _ => rfl⟩
    rw [if_neg s2, if_neg s2]
    by_cases s5 : b.op = 5 ∨ b.op = 6
    · rw [if_pos s5, if_pos s5]; exact ⟨rfl, fun _ => rfl⟩
    · rw [if_neg s5, if_neg s5]; exact ⟨rfl, fun h => by cases h⟩
  rw [if_neg f2, if_neg f2]
  by_cases f5 : a.op = 5
  · rw [if_pos f5, if_pos f5]
    by_cases s2 : b.op = 2
    · rw [if_pos s2, if_pos s2, f5]; exact ⟨rfl, fun _ => rfl⟩
    rw [if_neg s2, if_neg s2]
    by_cases s5 : b.op = 5
    · have m1 : (a.c * b.c).tmod 1 = 0 := Int.tmod_one _
      have d1 : (a.c * b.c).tdiv 1 = a.c * b.c := Int.tdiv_one _
      rw [if_pos s5]
      unfold scaled
      rw [if_pos m1, d1]
      by_cases hf : fits (a.c * b.c) = true
      · rw [if_pos hf, if_pos ⟨s5, hf⟩]; exact ⟨rfl, fun _ => rfl⟩
      · rw [if_neg hf, if_neg (show ¬ (b.op = 5 ∧ fits (a.c * b.c) = true) from fun h => hf h.2), if_neg (show ¬ (b.op = 6 ∧ a.c.tmod b.c = 0) from fun h => by omega), if_neg (show ¬ (b.op = 6 ∧ b.c.tmod a.c = 0) from fun h => by omega)]; exact ⟨rfl, fun h => by cases h⟩
    rw [if_neg s5, if_neg (show ¬ (b.op = 5 ∧ fits (a.c * b.c) = true) from fun h => s5 h.1)]
    by_cases s6 : b.op = 6
    · rw [if_pos s6]
      unfold scaled
      by_cases m1 : a.c.tmod b.c = 0
      · rw [if_pos m1, if_pos ((fits_iff _).2 q1), if_pos ⟨s6, m1⟩]; exact ⟨rfl, fun _ => rfl⟩
      rw [if_neg m1, if_neg (show ¬ (b.op = 6 ∧ a.c.tmod b.c = 0) from fun h => m1 h.2)]
      by_cases m2 : b.c.tmod a.c = 0
      · rw [if_pos m2, if_pos ((fits_iff _).2 q2), if_pos ⟨s6, m2⟩]; exact ⟨rfl, fun _ => rfl⟩
      · rw [if_neg m2, if_neg (show ¬ (b.op = 6 ∧ b.c.tmod a.c = 0) from fun h => m2 h.2)]; exact ⟨rfl, fun h => by cases h⟩
    · rw [if_neg s6, if_neg (show ¬ (b.op = 6 ∧ a.c.tmod b.c = 0) from fun h => s6 h.1), if_neg (show ¬ (b.op = 6 ∧ b.c.tmod a.c = 0) from fun h => s6 h.1)]; exact ⟨rfl, fun h => by cases h⟩
  rw [if_neg f5, if_neg f5]
  by_cases f6 : a.op = 6
  · rw [if_pos f6, if_pos f6]
    by_cases s2 : b.op = 2
    · rw [if_pos s2, if_pos s2, f6]; exact ⟨rfl, fun _ => rfl⟩
    rw [if_neg s2, if_neg s2]
    by_cases s6 : b.op = 6 ∧ -512 ≤ a.c * b.c ∧ a.c * b.c ≤ 512
    · rw [if_pos s6, if_pos ⟨s6.1, (fits_iff _).2 s6.2⟩]; exact ⟨rfl, fun _ => rfl⟩
    · rw [if_neg s6, if_neg (show ¬ (b.op = 6 ∧ fits (a.c * b.c) = true) from fun h => s6 ⟨h.1, (fits_iff _).1 h.2⟩)]; exact ⟨rfl, fun h => by cases h⟩
  rw [if_neg f6, if_neg f6]
  by_cases f7 : a.op = 7
  · have n1 := cok_shift hca (.inl f7)
    rw [if_pos f7, if_pos f7]
    by_cases s7 : b.op = 7
    · have n2 := cok_shift hcb (.inl s7)
      rw [if_pos s7]
      unfold shifted
      by_cases hf : a.c + b.c ≤ 64
      · rw [if_neg (by omega), if_neg (by omega), if_pos (by omega), if_pos ⟨s7, hf⟩]; exact ⟨rfl, fun _ => rfl⟩
      · rw [if_neg (by omega), if_pos (by omega), if_neg (by omega), if_pos (by omega)]; exact ⟨rfl, fun h => by cases h⟩
    rw [if_neg s7, if_neg (show ¬ (b.op = 7 ∧ a.c + b.c ≤ 64) from fun h => s7 h.1)]
    by_cases s8 : b.op = 8
    · have n2 := cok_shift hcb (.inr s8)
      rw [if_pos s8, if_neg (show ¬ ¬ b.op = 8 from fun h => h s8)]
      unfold shifted
      by_cases e : a.c = b.c
      · rw [if_pos (by omega), if_pos e]; exact ⟨rfl, fun _ => rfl⟩
      rw [if_neg (by omega), if_neg (by omega), if_neg e]
      by_cases e2 : b.c < a.c
      · rw [if_pos (by omega), if_pos e2]; exact ⟨rfl, fun _ => rfl⟩
      · rw [if_neg (by omega), if_neg e2]; exact ⟨rfl, fun _ => by rw [show -(a.c - b.c) = b.c - a.c by omega]⟩
    · rw [if_neg s8, if_pos s8]; exact ⟨rfl, fun h => by cases h⟩
  rw [if_neg f7, if_neg f7]
  by_cases f8 : a.op = 8
  · have n1 := cok_shift hca (.inr f8)
    rw [if_pos f8]
    by_cases s8 : b.op = 8
    · have n2 := cok_shift hcb (.inr s8)
      rw [if_pos ⟨f8, s8⟩]
      unfold shifted
      by_cases hf : a.c + b.c ≤ 64
      · rw [if_neg (by omega), if_neg (by omega), if_neg (by omega), if_pos ⟨s8, hf⟩]; exact ⟨rfl, fun _ => by rw [show -(-a.c - b.c) = a.c + b.c by omega]⟩
      · rw [if_neg (by omega), if_pos (by omega), if_neg (by omega)]; exact ⟨rfl, fun h => by cases h⟩
    · rw [if_neg (by omega), if_neg (by omega)]; exact ⟨rfl, fun h => by cases h⟩
  · rw [if_neg (by omega), if_neg f8]; exact ⟨rfl, fun h => by cases h⟩
end Go.Proofs.YtmkoadgphhkfgaaDoor.Pg
