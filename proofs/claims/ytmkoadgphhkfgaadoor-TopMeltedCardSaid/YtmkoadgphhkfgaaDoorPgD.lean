/- The pass over a program that it was over before leaves it as it is; lists that are equal. No conditions. -/
import Derived.Test.YtmkoadgphhkfgaaDoorPgC
set_option linter.unusedVariables false
namespace Go.Proofs.YtmkoadgphhkfgaaDoor.Pg
open Go Sl
theorem same_end {xs ys : List Ins} {k : Nat} (hk : k ≤ xs.length) (ht : xs.take k = ys.take k) (h : k < xs.length → xs.length = ys.length → False) : decide (((xs.length : Nat) : Int) = ((ys.length : Nat) : Int)) = decide (xs = ys) := by
  rw [decide_eq_decide]
  constructor
  · intro e
    have e' : xs.length = ys.length := by omega
    have hk' : k = xs.length := by
      rcases Nat.lt_or_ge k xs.length with hl | hl
      · exact (h hl e').elim
      · omega
    rw [hk', List.take_of_length_le (Nat.le_refl _), e', List.take_of_length_le (Nat.le_refl _)] at ht
    exact ht
  · intro e; rw [e]
theorem plain_plain (i : Ins) : plain (plain i) = plain i := by
  have k7 : ∀ j : Ins, j.op ≠ 3 → ¬ (j.op = 5 ∨ j.op = 6) → plain j = j := by
    intro j h1 h2; unfold plain; rw [if_neg h1, if_neg h2]
  by_cases h3 : i.op = 3
  · by_cases ha : i.a = i.b
    · have e : plain i = ⟨7, i.to, i.a, 0, 1⟩ := by unfold plain; rw [if_pos h3, if_pos ha]
      rw [e]; exact k7 _ (by simp) (by simp)
    · have e : plain i = i := by unfold plain; rw [if_pos h3, if_neg ha]
      rw [e, e]
  · by_cases h5 : i.op = 5 ∨ i.op = 6
    · by_cases c1 : i.c = 1
      · have e : plain i = ⟨1, i.to, i.a, 0, 0⟩ := by unfold plain; rw [if_neg h3, if_pos h5, if_pos c1]
        rw [e]; exact k7 _ (by simp) (by simp)
      · by_cases c2 : i.c = -1
        · have e : plain i = ⟨2, i.to, i.a, 0, 0⟩ := by unfold plain; rw [if_neg h3, if_pos h5, if_neg c1, if_pos c2]
          rw [e]; exact k7 _ (by simp) (by simp)
        · by_cases hp : pow2 i.c ≠ 0
          · by_cases o5 : i.op = 5
            · have e : plain i = ⟨7, i.to, i.a, 0, pow2 i.c⟩ := by unfold plain; rw [if_neg h3, if_pos h5, if_neg c1, if_neg c2, if_pos hp, if_pos o5]
              rw [e]; exact k7 _ (by simp) (by simp)
            · have e : plain i = ⟨8, i.to, i.a, 0, pow2 i.c⟩ := by unfold plain; rw [if_neg h3, if_pos h5, if_neg c1, if_neg c2, if_pos hp, if_neg o5]
              rw [e]; exact k7 _ (by simp) (by simp)
          · have e : plain i = i := by unfold plain; rw [if_neg h3, if_pos h5, if_neg c1, if_neg c2, if_neg hp]
            rw [e, e]
    · rw [k7 i h3 h5, k7 i h3 h5]
theorem melt_plain {a b : Ins} (h : (melt a b).2 = true) : plain (melt a b).1 = (melt a b).1 := by
  unfold melt at h ⊢
  split at h
  · cases h
  · rename_i hn
    rw [if_neg hn]
    split at h
    · rename_i ht; rw [if_pos ht]; exact plain_plain _
    · cases h
/-- A list that the pass leaves, turned round. -/
def Good : List Ins → Prop
  | [] => True
  | x :: r => plain x = x ∧ ¬ selfm x = true ∧ (∀ y, r.head? = some y → ¬ (melt y x).2 = true) ∧ Good r
theorem meltR_good : ∀ (r : List Ins) (b : Ins), Good r → plain b = b → Good (meltR r b) := by
  intro r
  induction r with
  | nil => intro b _ hb; simp only [meltR]; split; trivial; exact ⟨hb, by assumption, by simp, trivial⟩
  | cons y r ih =>
    intro b hg hb
    simp only [meltR]
    split
    · exact hg
    · rename_i hs
      split
      · rename_i hm; exact ih _ hg.2.2.2 (melt_plain hm)
      · rename_i hm; exact ⟨hb, hs, by intro z hz; simp at hz; subst hz; exact hm, hg⟩
theorem passF_good (code : List Ins) : Good (passF code).reverse := by
  suffices h : ∀ n, n ≤ code.length → Good (passF (code.take n)).reverse by have := h code.length (Nat.le_refl _); simpa using this
  intro n
  induction n with
  | zero => intro _; simp [passF, Good]
  | succ n ih =>
    intro hn
    have hx : code[n]? = some code[n] := List.getElem?_eq_getElem (by omega)
    rw [take_snoc hx, passF_snoc]
    unfold meltF
    rw [List.reverse_reverse]
    exact meltR_good _ _ (ih (by omega)) (plain_plain _)
theorem good_pass : ∀ (r : List Ins), Good r → passF r.reverse = r.reverse := by
  intro r
  induction r with
  | nil => intro _; rfl
  | cons x r ih =>
    intro hg
    rw [List.reverse_cons, passF_snoc, ih hg.2.2.2, hg.1]
    unfold meltF
    rw [List.reverse_reverse]
    cases hr : r with
    | nil => simp [meltR, hg.2.1]
    | cons y t =>
      have := hg.2.2.1 y (by rw [hr]; rfl)
      simp [meltR, hg.2.1, this]
theorem passF_passF (code : List Ins) : passF (passF code) = passF code := by
  have := good_pass _ (passF_good code)
  simpa using this
end Go.Proofs.YtmkoadgphhkfgaaDoor.Pg
