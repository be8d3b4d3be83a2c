/- Walks of package fold: plain forms, what melts. Conditions: as the theorems say. -/
import Derived.Test.YtmkoadgphhkfgaaDoorSlG
import Derived.Test.YtmkoadgphhkfgaaDoorFacts
import Derived.Test.YtmkoadgphhkfgaaDoorPgWalks1
import Derived.Test.YtmkoadgphhkfgaaDoorPgB
set_option linter.unusedVariables false
set_option linter.unusedSimpArgs false
set_option maxRecDepth 10000
namespace Go.Proofs.YtmkoadgphhkfgaaDoor
open Go Go.RowKit Sl Pg
theorem insD (i j : Ins) : decide ([i.op, i.to, i.a, i.b, i.c] = [j.op, j.to, j.a, j.b, j.c]) = decide (i = j) := by rw [decide_eq_decide]; exact insL i j
abbrev tabCh : Ch := roE (encI .u8) (some ⟨1, 0, none⟩) tab64

theorem fits_w (c : Int) :
    Tri Tryd.prog 70 #[.int .i64 c] [] [] (fun v L' => v = .bool (fits c) ∧ L' = []) := by
  refine Tri.of' 9 [.int .i64 c] [(0, .int .i64 c)] Tryd.func70 Tryd.ntmps70 rfl rfl rfl ?_
  intro w0
  refine H.seq ?_
  refine H.region ?_
  refine HO.v (V.assign rfl) (ltn rfl) ?_
  refine HO.nil ?_
  refine HQ.next ?_
  refine H.seq ?_
  refine H.region ?_
  refine HO.v (V.move rfl) (ltn rfl) ?_
  refine HO.v (V.geq rfl rfl) (ltn rfl) ?_
  refine HO.v (V.move rfl) (ltn rfl) ?_
  refine HO.part (t := 5) rfl (fun g5 => ?_) (fun g5 => ?_)
  · skip
    try simp only [decide_eq_true_eq, decide_eq_false_iff_not, Bool.not_eq_true', Bool.not_eq_false'] at g5
    refine HO.gdo rfl rfl rfl rfl ?_
    refine HO.v (V.move rfl) (ltn rfl) ?_
    refine HO.gdo rfl rfl rfl rfl ?_
    refine HO.v (V.leq rfl rfl) (ltn rfl) ?_
    refine HO.v (V.pickT rfl rfl) (ltn rfl) ?_
    refine HO.v (V.assign rfl) (ltn rfl) ?_
    refine HO.nil ?_
    refine HQ.keep (.cons (t := 2) rfl (.nil)) ?_
    refine HQ.next ?_
    refine H.ret ?_
    refine HQ.end_ rfl rfl rfl rfl (.inl rfl) _ (fun a w s => res1 Tryd.results70 s rfl) ?_
    exact ⟨_, _, .nil, by unfold fits; simp_all <;> (intros; omega), rfl⟩
  · skip
    try simp only [decide_eq_true_eq, decide_eq_false_iff_not, Bool.not_eq_true', Bool.not_eq_false'] at g5
    refine HO.gskip rfl rfl rfl rfl (ltn rfl) ?_
    refine HO.gskip rfl rfl rfl rfl (ltn rfl) ?_
    refine HO.v (V.pickF rfl rfl) (ltn rfl) ?_
    refine HO.v (V.assign rfl) (ltn rfl) ?_
    refine HO.nil ?_
    refine HQ.keep (.cons (t := 2) rfl (.nil)) ?_
    refine HQ.next ?_
    refine H.ret ?_
    refine HQ.end_ rfl rfl rfl rfl (.inl rfl) _ (fun a w s => res1 Tryd.results70 s rfl) ?_
    exact ⟨_, _, .nil, by unfold fits; simp_all <;> (intros; omega), rfl⟩
theorem one_w (op to a c : Int) :
    Tri Tryd.prog 54 #[.int .i64 op, .int .i64 to, .int .i64 a, .int .i64 c] [] [] (fun v L' => v = vIn ⟨op, to, a, 0, c⟩ ∧ L' = []) := by
  refine Tri.of' 14 [.int .i64 op, .int .i64 to, .int .i64 a, .int .i64 c] [(0, .int .i64 op), (1, .int .i64 to), (2, .int .i64 a), (3, .int .i64 c)] Tryd.func54 Tryd.ntmps54 rfl rfl rfl ?_
  intro w0
  refine H.seq ?_
  refine H.region ?_
  refine HO.alloc ze26 rfl (ltn rfl) ?_
  intro b8
  refine HO.nil ?_
  refine HQ.next ?_
  refine H.seq ?_
  refine H.region ?_
  refine HO.v (V.move rfl) (ltn rfl) ?_
  refine HO.v (V.move rfl) (ltn rfl) ?_
  refine HO.v (V.move rfl) (ltn rfl) ?_
  refine HO.v (V.move rfl) (ltn rfl) ?_
  refine HO.v (V.build ze26 pl26 rfl (.cons rfl (.cons rfl (.cons rfl (.cons rfl (.nil))))) (.cons rfl rfl rfl (by repeat constructor) (.cons rfl rfl rfl (by repeat constructor) (.cons rfl rfl rfl (by repeat constructor) (.cons rfl rfl rfl (by repeat constructor) (.nil)))))) (ltn rfl) ?_
  refine HO.store sz26 rfl rfl rfl rfl rfl (by exact .mk .here (by repeat constructor)) ?_
  refine HO.nil ?_
  refine HQ.keep (.cons (t := 8) rfl (.nil)) ?_
  refine HQ.next ?_
  refine H.ret ?_
  refine HQ.end_ rfl rfl rfl rfl (.inl rfl) _ (fun a w s => resR1 Tryd.results54 s (.agg ag26 rfl (by exact .mk .here (by repeat constructor)))) ?_
  exact ⟨_, _, .nil, rfl, rfl⟩
theorem together_w (f c s d : Int) (hc : -512 ≤ c ∧ c ≤ 512) (hd : -512 ≤ d ∧ d ≤ 512) (hcd : f = 5 → s = 6 → c ≠ 0 ∧ d ≠ 0) :
    Tri Tryd.prog 55 #[.int .i64 f, .int .i64 c, .int .i64 s, .int .i64 d] [] [] (fun v L' => v = .tuple #[.int .i64 (together f c s d).1, .int .i64 (together f c s d).2.1, .bool (together f c s d).2.2] ∧ L' = []) := by
  have hm := mul_bd hc hd
  have hq1 := tdiv_bd d hc
  have hq2 := tdiv_bd c hd
  refine Tri.of' 135 [.int .i64 f, .int .i64 c, .int .i64 s, .int .i64 d] [(0, .int .i64 f), (1, .int .i64 c), (2, .int .i64 s), (3, .int .i64 d)] Tryd.func55 Tryd.ntmps55 rfl rfl rfl ?_
  intro w0
  refine H.seq ?_
  refine H.region ?_
  refine HO.v (V.assign rfl) (ltn rfl) ?_
  refine HO.v (V.assign rfl) (ltn rfl) ?_
  refine HO.v (V.assign rfl) (ltn rfl) ?_
  refine HO.nil ?_
  refine HQ.next ?_
  refine H.seq ?_
  refine H.seq ?_
  refine H.region ?_
  refine HO.v (V.move rfl) (ltn rfl) ?_
  refine HO.nil ?_
  refine HQ.keep (.cons (t := 1) rfl (.cons (t := 2) rfl (.cons (t := 3) rfl (.cons (t := 8) rfl (.cons (t := 9) rfl (.cons (t := 10) rfl (.cons (t := 11) rfl (.nil)))))))) ?_
  refine HQ.next ?_
  refine H.block ?_
  refine H.seq ?_
  refine H.region ?_
  refine HO.v (V.eqlI rfl rfl) (ltn rfl) ?_
  refine HO.v (V.assign rfl) (ltn rfl) ?_
  refine HO.nil ?_
  refine HQ.keep (.cons (t := 1) rfl (.cons (t := 2) rfl (.cons (t := 3) rfl (.cons (t := 8) rfl (.cons (t := 9) rfl (.cons (t := 10) rfl (.cons (t := 11) rfl (.cons (t := 12) rfl (.nil))))))))) ?_
  refine HQ.next ?_
  refine H.condB rfl (fun h12 => ?_) (fun h12 => ?_)
  · skip
    try simp only [decide_eq_true_eq, decide_eq_false_iff_not, Bool.not_eq_true', Bool.not_eq_false'] at h12
    refine H.seq ?_
    refine H.region ?_
    refine HO.v (V.move rfl) (ltn rfl) ?_
    refine HO.v (V.move rfl) (ltn rfl) ?_
    refine HO.v (V.assign rfl) (ltn rfl) ?_
    refine HO.v (V.assign rfl) (ltn rfl) ?_
    refine HO.v (V.assign rfl) (ltn rfl) ?_
    refine HO.nil ?_
    refine HQ.keep (.cons (t := 8) rfl (.cons (t := 9) rfl (.cons (t := 10) rfl (.nil)))) ?_
    refine HQ.next ?_
    refine H.ret ?_
    refine HQ.block_ret ?_
    refine HQ.then_ret ?_
    refine HQ.end_ rfl rfl rfl rfl (.inl rfl) _ (fun a w s => res3 Tryd.results55 s rfl rfl rfl) ?_
    exact ⟨_, _, .nil, by unfold together; first | (simp_all; done) | ((repeat' split) <;> simp_all <;> (intros; omega)), rfl⟩
  · skip
    try simp only [decide_eq_true_eq, decide_eq_false_iff_not, Bool.not_eq_true', Bool.not_eq_false'] at h12
    refine H.seq ?_
    refine H.region ?_
    refine HO.v (V.eqlI rfl rfl) (ltn rfl) ?_
    refine HO.v (V.assign rfl) (ltn rfl) ?_
    refine HO.nil ?_
    refine HQ.keep (.cons (t := 1) rfl (.cons (t := 2) rfl (.cons (t := 3) rfl (.cons (t := 8) rfl (.cons (t := 9) rfl (.cons (t := 10) rfl (.cons (t := 11) rfl (.cons (t := 16) rfl (.nil))))))))) ?_
    refine HQ.next ?_
    refine H.condB rfl (fun h16 => ?_) (fun h16 => ?_)
    · skip
      try simp only [decide_eq_true_eq, decide_eq_false_iff_not, Bool.not_eq_true', Bool.not_eq_false'] at h16
      refine H.seq ?_
      refine H.region ?_
      refine HO.v (V.move rfl) (ltn rfl) ?_
      refine HO.nil ?_
      refine HQ.keep (.cons (t := 2) rfl (.cons (t := 3) rfl (.cons (t := 8) rfl (.cons (t := 9) rfl (.cons (t := 10) rfl (.cons (t := 18) rfl (.nil))))))) ?_
      refine HQ.next ?_
      refine H.block ?_
      refine H.seq ?_
      refine H.region ?_
      refine HO.v (V.eqlI rfl rfl) (ltn rfl) ?_
      refine HO.v (V.assign rfl) (ltn rfl) ?_
      refine HO.nil ?_
      refine HQ.keep (.cons (t := 2) rfl (.cons (t := 3) rfl (.cons (t := 8) rfl (.cons (t := 9) rfl (.cons (t := 10) rfl (.cons (t := 18) rfl (.cons (t := 19) rfl (.nil)))))))) ?_
      refine HQ.next ?_
      refine H.condB rfl (fun h19 => ?_) (fun h19 => ?_)
      · skip
        try simp only [decide_eq_true_eq, decide_eq_false_iff_not, Bool.not_eq_true', Bool.not_eq_false'] at h19
        refine H.seq ?_
        refine H.region ?_
        refine HO.v (V.assign rfl) (ltn rfl) ?_
        refine HO.v (V.assign rfl) (ltn rfl) ?_
        refine HO.v (V.assign rfl) (ltn rfl) ?_
        refine HO.nil ?_
        refine HQ.keep (.cons (t := 8) rfl (.cons (t := 9) rfl (.cons (t := 10) rfl (.nil)))) ?_
        refine HQ.next ?_
        refine H.ret ?_
        refine HQ.block_ret ?_
        refine HQ.block_ret ?_
        refine HQ.then_ret ?_
        refine HQ.end_ rfl rfl rfl rfl (.inl rfl) _ (fun a w s => res3 Tryd.results55 s rfl rfl rfl) ?_
        exact ⟨_, _, .nil, by unfold together; first | (simp_all; done) | ((repeat' split) <;> simp_all <;> (intros; omega)), rfl⟩
      · skip
        try simp only [decide_eq_true_eq, decide_eq_false_iff_not, Bool.not_eq_true', Bool.not_eq_false'] at h19
        refine H.seq ?_
        refine H.region ?_
        refine HO.v (V.eqlI rfl rfl) (ltn rfl) ?_
        refine HO.v (V.assign rfl) (ltn rfl) ?_
        refine HO.nil ?_
        refine HQ.keep (.cons (t := 2) rfl (.cons (t := 3) rfl (.cons (t := 8) rfl (.cons (t := 9) rfl (.cons (t := 10) rfl (.cons (t := 18) rfl (.cons (t := 21) rfl (.nil)))))))) ?_
        refine HQ.next ?_
        refine H.condB rfl (fun h21 => ?_) (fun h21 => ?_)
        · skip
          try simp only [decide_eq_true_eq, decide_eq_false_iff_not, Bool.not_eq_true', Bool.not_eq_false'] at h21
          refine H.seq ?_
          refine H.region ?_
          refine HO.v (V.assign rfl) (ltn rfl) ?_
          refine HO.v (V.assign rfl) (ltn rfl) ?_
          refine HO.v (V.assign rfl) (ltn rfl) ?_
          refine HO.nil ?_
          refine HQ.keep (.cons (t := 8) rfl (.cons (t := 9) rfl (.cons (t := 10) rfl (.nil)))) ?_
          refine HQ.next ?_
          refine H.ret ?_
          refine HQ.block_ret ?_
          refine HQ.block_ret ?_
          refine HQ.then_ret ?_
          refine HQ.end_ rfl rfl rfl rfl (.inl rfl) _ (fun a w s => res3 Tryd.results55 s rfl rfl rfl) ?_
          exact ⟨_, _, .nil, by unfold together; first | (simp_all; done) | ((repeat' split) <;> simp_all <;> (intros; omega)), rfl⟩
        · skip
          try simp only [decide_eq_true_eq, decide_eq_false_iff_not, Bool.not_eq_true', Bool.not_eq_false'] at h21
          refine H.seq ?_
          refine H.seq ?_
          refine H.region ?_
          refine HO.v (V.eqlI rfl rfl) (ltn rfl) ?_
          refine HO.v (V.assign rfl) (ltn rfl) ?_
          refine HO.nil ?_
          refine HQ.keep (.cons (t := 2) rfl (.cons (t := 3) rfl (.cons (t := 8) rfl (.cons (t := 9) rfl (.cons (t := 10) rfl (.cons (t := 18) rfl (.cons (t := 23) rfl (.nil)))))))) ?_
          refine HQ.next ?_
          refine H.condB rfl (fun h23 => ?_) (fun h23 => ?_)
          · skip
            try simp only [decide_eq_true_eq, decide_eq_false_iff_not, Bool.not_eq_true', Bool.not_eq_false'] at h23
            refine H.skip ?_
            refine HQ.keep (.cons (t := 2) rfl (.cons (t := 3) rfl (.cons (t := 8) rfl (.cons (t := 9) rfl (.cons (t := 10) rfl (.cons (t := 23) rfl (.nil))))))) ?_
            refine HQ.next ?_
            refine H.condB rfl (fun h23 => ?_) (fun h23 => ?_)
            · skip
              try simp only [decide_eq_true_eq, decide_eq_false_iff_not, Bool.not_eq_true', Bool.not_eq_false'] at h23
              refine H.seq ?_
              refine H.region ?_
              refine HO.v (V.move rfl) (ltn rfl) ?_
              refine HO.v (V.move rfl) (ltn rfl) ?_
              refine HO.v (V.neg rfl (by omega)) (ltn rfl) ?_
              refine HO.v (V.assign rfl) (ltn rfl) ?_
              refine HO.v (V.assign rfl) (ltn rfl) ?_
              refine HO.v (V.assign rfl) (ltn rfl) ?_
              refine HO.nil ?_
              refine HQ.keep (.cons (t := 8) rfl (.cons (t := 9) rfl (.cons (t := 10) rfl (.nil)))) ?_
              refine HQ.next ?_
              refine H.ret ?_
              refine HQ.block_ret ?_
              refine HQ.block_ret ?_
              refine HQ.then_ret ?_
              refine HQ.end_ rfl rfl rfl rfl (.inl rfl) _ (fun a w s => res3 Tryd.results55 s rfl rfl rfl) ?_
              exact ⟨_, _, .nil, by unfold together; first | (simp_all; done) | ((repeat' split) <;> simp_all <;> (intros; omega)), rfl⟩
            · skip
              try simp only [decide_eq_true_eq, decide_eq_false_iff_not, Bool.not_eq_true', Bool.not_eq_false'] at h23
              refine H.skip ?_
              refine HQ.block_normal ?_
              refine HQ.block_normal ?_
              refine HQ.next ?_
              refine H.seq ?_
              refine H.region ?_
              refine HO.v (V.assign rfl) (ltn rfl) ?_
              refine HO.v (V.assign rfl) (ltn rfl) ?_
              refine HO.v (V.assign rfl) (ltn rfl) ?_
              refine HO.nil ?_
              refine HQ.next ?_
              refine H.ret ?_
              refine HQ.end_ rfl rfl rfl rfl (.inl rfl) _ (fun a w s => res3 Tryd.results55 s rfl rfl rfl) ?_
              exact ⟨_, _, .nil, by unfold together; first | (simp_all; done) | ((repeat' split) <;> simp_all <;> (intros; omega)), rfl⟩
          · skip
            try simp only [decide_eq_true_eq, decide_eq_false_iff_not, Bool.not_eq_true', Bool.not_eq_false'] at h23
            refine H.region ?_
            refine HO.v (V.eqlI rfl rfl) (ltn rfl) ?_
            refine HO.v (V.assign rfl) (ltn rfl) ?_
            refine HO.nil ?_
            refine HQ.keep (.cons (t := 2) rfl (.cons (t := 3) rfl (.cons (t := 8) rfl (.cons (t := 9) rfl (.cons (t := 10) rfl (.cons (t := 23) rfl (.nil))))))) ?_
            refine HQ.next ?_
            refine H.condB rfl (fun h23 => ?_) (fun h23 => ?_)
            · skip
              try simp only [decide_eq_true_eq, decide_eq_false_iff_not, Bool.not_eq_true', Bool.not_eq_false'] at h23
              refine H.seq ?_
              refine H.region ?_
              refine HO.v (V.move rfl) (ltn rfl) ?_
              refine HO.v (V.move rfl) (ltn rfl) ?_
              refine HO.v (V.neg rfl (by omega)) (ltn rfl) ?_
              refine HO.v (V.assign rfl) (ltn rfl) ?_
              refine HO.v (V.assign rfl) (ltn rfl) ?_
              refine HO.v (V.assign rfl) (ltn rfl) ?_
              refine HO.nil ?_
              refine HQ.keep (.cons (t := 8) rfl (.cons (t := 9) rfl (.cons (t := 10) rfl (.nil)))) ?_
              refine HQ.next ?_
              refine H.ret ?_
              refine HQ.block_ret ?_
              refine HQ.block_ret ?_
              refine HQ.then_ret ?_
              refine HQ.end_ rfl rfl rfl rfl (.inl rfl) _ (fun a w s => res3 Tryd.results55 s rfl rfl rfl) ?_
              exact ⟨_, _, .nil, by unfold together; first | (simp_all; done) | ((repeat' split) <;> simp_all <;> (intros; omega)), rfl⟩
            · skip
              try simp only [decide_eq_true_eq, decide_eq_false_iff_not, Bool.not_eq_true', Bool.not_eq_false'] at h23
              refine H.skip ?_
              refine HQ.block_normal ?_
              refine HQ.block_normal ?_
              refine HQ.next ?_
              refine H.seq ?_
              refine H.region ?_
              refine HO.v (V.assign rfl) (ltn rfl) ?_
              refine HO.v (V.assign rfl) (ltn rfl) ?_
              refine HO.v (V.assign rfl) (ltn rfl) ?_
              refine HO.nil ?_
              refine HQ.next ?_
              refine H.ret ?_
              refine HQ.end_ rfl rfl rfl rfl (.inl rfl) _ (fun a w s => res3 Tryd.results55 s rfl rfl rfl) ?_
              exact ⟨_, _, .nil, by unfold together; first | (simp_all; done) | ((repeat' split) <;> simp_all <;> (intros; omega)), rfl⟩
    · skip
      try simp only [decide_eq_true_eq, decide_eq_false_iff_not, Bool.not_eq_true', Bool.not_eq_false'] at h16
      refine H.seq ?_
      refine H.region ?_
      refine HO.v (V.eqlI rfl rfl) (ltn rfl) ?_
      refine HO.v (V.assign rfl) (ltn rfl) ?_
      refine HO.nil ?_
      refine HQ.keep (.cons (t := 1) rfl (.cons (t := 2) rfl (.cons (t := 3) rfl (.cons (t := 8) rfl (.cons (t := 9) rfl (.cons (t := 10) rfl (.cons (t := 11) rfl (.cons (t := 29) rfl (.nil))))))))) ?_
      refine HQ.next ?_
      refine H.condB rfl (fun h29 => ?_) (fun h29 => ?_)
      · skip
        try simp only [decide_eq_true_eq, decide_eq_false_iff_not, Bool.not_eq_true', Bool.not_eq_false'] at h29
        refine H.block ?_
        refine H.seq ?_
        refine H.region ?_
        refine HO.v (V.move rfl) (ltn rfl) ?_
        refine HO.v (V.eqlI rfl rfl) (ltn rfl) ?_
        refine HO.v (V.assign rfl) (ltn rfl) ?_
        refine HO.nil ?_
        refine HQ.keep (.cons (t := 1) rfl (.cons (t := 2) rfl (.cons (t := 3) rfl (.cons (t := 8) rfl (.cons (t := 9) rfl (.cons (t := 10) rfl (.cons (t := 31) rfl (.nil)))))))) ?_
        refine HQ.next ?_
        refine H.condB rfl (fun h31 => ?_) (fun h31 => ?_)
        · skip
          try simp only [decide_eq_true_eq, decide_eq_false_iff_not, Bool.not_eq_true', Bool.not_eq_false'] at h31
          refine H.seq ?_
          refine H.region ?_
          refine HO.v (V.move rfl) (ltn rfl) ?_
          refine HO.v (V.neg rfl (by omega)) (ltn rfl) ?_
          refine HO.v (V.assign rfl) (ltn rfl) ?_
          refine HO.v (V.assign rfl) (ltn rfl) ?_
          refine HO.v (V.assign rfl) (ltn rfl) ?_
          refine HO.nil ?_
          refine HQ.keep (.cons (t := 8) rfl (.cons (t := 9) rfl (.cons (t := 10) rfl (.nil)))) ?_
          refine HQ.next ?_
          refine H.ret ?_
          refine HQ.block_ret ?_
          refine HQ.block_ret ?_
          refine HQ.then_ret ?_
          refine HQ.end_ rfl rfl rfl rfl (.inl rfl) _ (fun a w s => res3 Tryd.results55 s rfl rfl rfl) ?_
          exact ⟨_, _, .nil, by unfold together; first | (simp_all; done) | ((repeat' split) <;> simp_all <;> (intros; omega)), rfl⟩
        · skip
          try simp only [decide_eq_true_eq, decide_eq_false_iff_not, Bool.not_eq_true', Bool.not_eq_false'] at h31
          refine H.seq ?_
          refine H.region ?_
          refine HO.v (V.move rfl) (ltn rfl) ?_
          refine HO.v (V.eqlI rfl rfl) (ltn rfl) ?_
          refine HO.v (V.move rfl) (ltn rfl) ?_
          refine HO.part (t := 39) rfl (fun g39 => ?_) (fun g39 => ?_)
          · skip
            try simp only [decide_eq_true_eq, decide_eq_false_iff_not, Bool.not_eq_true', Bool.not_eq_false'] at g39
            refine HO.gdo rfl rfl rfl rfl ?_
            refine HO.v (V.move rfl) (ltn rfl) ?_
            refine HO.gdo rfl rfl rfl rfl ?_
            refine HO.v (V.move rfl) (ltn rfl) ?_
            refine HO.gdo rfl rfl rfl rfl ?_
            refine HO.v (V.mul rfl rfl (by omega)) (ltn rfl) ?_
            refine HO.gdo rfl rfl rfl rfl ?_
            refine HO.call ca70 (.cons rfl (.nil)) (fits_w _) (by exact Rems.nil) (by exact Reads.nil) (ltn rfl) ?_
            rintro v43 L43 ⟨rfl, rfl⟩
            dsimp only [List.nil_append, List.cons_append]
            refine HO.v (V.pickT rfl rfl) (ltn rfl) ?_
            refine HO.v (V.assign rfl) (ltn rfl) ?_
            refine HO.nil ?_
            refine HQ.keep (.cons (t := 1) rfl (.cons (t := 2) rfl (.cons (t := 3) rfl (.cons (t := 8) rfl (.cons (t := 9) rfl (.cons (t := 10) rfl (.cons (t := 36) rfl (.nil)))))))) ?_
            refine HQ.next ?_
            refine H.condB rfl (fun h36 => ?_) (fun h36 => ?_)
            · skip
              try simp only [decide_eq_true_eq, decide_eq_false_iff_not, Bool.not_eq_true', Bool.not_eq_false'] at h36
              refine H.seq ?_
              refine H.region ?_
              refine HO.v (V.move rfl) (ltn rfl) ?_
              refine HO.v (V.move rfl) (ltn rfl) ?_
              refine HO.v (V.mul rfl rfl (by omega)) (ltn rfl) ?_
              refine HO.v (V.assign rfl) (ltn rfl) ?_
              refine HO.v (V.assign rfl) (ltn rfl) ?_
              refine HO.v (V.assign rfl) (ltn rfl) ?_
              refine HO.nil ?_
              refine HQ.keep (.cons (t := 8) rfl (.cons (t := 9) rfl (.cons (t := 10) rfl (.nil)))) ?_
              refine HQ.next ?_
              refine H.ret ?_
              refine HQ.block_ret ?_
              refine HQ.block_ret ?_
              refine HQ.then_ret ?_
              refine HQ.end_ rfl rfl rfl rfl (.inl rfl) _ (fun a w s => res3 Tryd.results55 s rfl rfl rfl) ?_
              exact ⟨_, _, .nil, by unfold together; first | (simp_all; done) | ((repeat' split) <;> simp_all <;> (intros; omega)), rfl⟩
            · skip
              try simp only [decide_eq_true_eq, decide_eq_false_iff_not, Bool.not_eq_true', Bool.not_eq_false'] at h36
              refine H.seq ?_
              refine H.region ?_
              refine HO.v (V.move rfl) (ltn rfl) ?_
              refine HO.v (V.eqlI rfl rfl) (ltn rfl) ?_
              refine HO.v (V.move rfl) (ltn rfl) ?_
              refine HO.part (t := 51) rfl (fun g51 => ?_) (fun g51 => ?_)
              · skip
                try simp only [decide_eq_true_eq, decide_eq_false_iff_not, Bool.not_eq_true', Bool.not_eq_false'] at g51
                refine HO.gdo rfl rfl rfl rfl ?_
                refine HO.v (V.move rfl) (ltn rfl) ?_
                refine HO.gdo rfl rfl rfl rfl ?_
                refine HO.v (V.move rfl) (ltn rfl) ?_
                refine HO.gdo rfl rfl rfl rfl ?_
                refine HO.v (V.rem rfl rfl (by first | exact (hcd (by assumption) (by assumption)).2)) (ltn rfl) ?_
                refine HO.gdo rfl rfl rfl rfl ?_
                refine HO.v (V.eqlI rfl rfl) (ltn rfl) ?_
                refine HO.v (V.pickT rfl rfl) (ltn rfl) ?_
                refine HO.v (V.assign rfl) (ltn rfl) ?_
                refine HO.nil ?_
                refine HQ.keep (.cons (t := 1) rfl (.cons (t := 2) rfl (.cons (t := 3) rfl (.cons (t := 8) rfl (.cons (t := 9) rfl (.cons (t := 10) rfl (.cons (t := 48) rfl (.nil)))))))) ?_
                refine HQ.next ?_
                refine H.condB rfl (fun h48 => ?_) (fun h48 => ?_)
                · skip
                  try simp only [decide_eq_true_eq, decide_eq_false_iff_not, Bool.not_eq_true', Bool.not_eq_false'] at h48
                  refine H.seq ?_
                  refine H.draws (.nil) (by kernel_rfl) ?_
                  refine HA.take (i := 0) rfl rfl (ltn rfl) (by kernel_rfl) (by kernel_rfl) (by kernel_rfl) (gives_of want_none (V.move rfl)) (Sub.nil) rfl ?_
                  refine HA.take (i := 1) rfl rfl (ltn rfl) (by kernel_rfl) (by kernel_rfl) (by kernel_rfl) (gives_of want_none (V.move rfl)) (Sub.nil) rfl ?_
                  refine HA.take (i := 2) rfl rfl (ltn rfl) (by kernel_rfl) (by kernel_rfl) (by kernel_rfl) (gives_of want_none (V.quo rfl rfl (by first | exact (hcd (by assumption) (by assumption)).2) (by omega))) (Sub.nil) rfl ?_
                  refine HA.take (i := 3) rfl rfl (ltn rfl) (by kernel_rfl) (by kernel_rfl) (by kernel_rfl) (gives_of want_none (V.assign rfl)) (Sub.nil) rfl ?_
                  refine HA.take (i := 4) rfl rfl (ltn rfl) (by kernel_rfl) (by kernel_rfl) (by kernel_rfl) (gives_of want_none (V.assign rfl)) (Sub.nil) rfl ?_
                  refine HA.take (i := 5) rfl rfl (ltn rfl) (by kernel_rfl) (by kernel_rfl) (by kernel_rfl) (gives_of want_none (V.assign rfl)) (Sub.nil) rfl ?_
                  refine HA.done (by kernel_rfl) ?_
                  refine HQ.keep (.cons (t := 8) rfl (.cons (t := 9) rfl (.cons (t := 10) rfl (.nil)))) ?_
                  refine HQ.next ?_
                  refine H.ret ?_
                  refine HQ.block_ret ?_
                  refine HQ.block_ret ?_
                  refine HQ.then_ret ?_
                  refine HQ.end_ rfl rfl rfl rfl (.inl rfl) _ (fun a w s => res3 Tryd.results55 s rfl rfl rfl) ?_
                  exact ⟨_, _, .nil, by unfold together; first | (simp_all; done) | ((repeat' split) <;> simp_all <;> (intros; omega)), rfl⟩
                · skip
                  try simp only [decide_eq_true_eq, decide_eq_false_iff_not, Bool.not_eq_true', Bool.not_eq_false'] at h48
                  refine H.seq ?_
                  refine H.region ?_
                  refine HO.v (V.move rfl) (ltn rfl) ?_
                  refine HO.v (V.eqlI rfl rfl) (ltn rfl) ?_
                  refine HO.v (V.move rfl) (ltn rfl) ?_
                  refine HO.part (t := 63) rfl (fun g63 => ?_) (fun g63 => ?_)
                  · skip
                    try simp only [decide_eq_true_eq, decide_eq_false_iff_not, Bool.not_eq_true', Bool.not_eq_false'] at g63
                    refine HO.gdo rfl rfl rfl rfl ?_
                    refine HO.v (V.move rfl) (ltn rfl) ?_
                    refine HO.gdo rfl rfl rfl rfl ?_
                    refine HO.v (V.move rfl) (ltn rfl) ?_
                    refine HO.gdo rfl rfl rfl rfl ?_
                    refine HO.v (V.rem rfl rfl (by first | exact (hcd (by assumption) (by assumption)).1)) (ltn rfl) ?_
                    refine HO.gdo rfl rfl rfl rfl ?_
                    refine HO.v (V.eqlI rfl rfl) (ltn rfl) ?_
                    refine HO.v (V.pickT rfl rfl) (ltn rfl) ?_
                    refine HO.v (V.assign rfl) (ltn rfl) ?_
                    refine HO.nil ?_
                    refine HQ.keep (.cons (t := 1) rfl (.cons (t := 3) rfl (.cons (t := 8) rfl (.cons (t := 9) rfl (.cons (t := 10) rfl (.cons (t := 60) rfl (.nil))))))) ?_
                    refine HQ.next ?_
                    refine H.condB rfl (fun h60 => ?_) (fun h60 => ?_)
                    · skip
                      try simp only [decide_eq_true_eq, decide_eq_false_iff_not, Bool.not_eq_true', Bool.not_eq_false'] at h60
                      refine H.seq ?_
                      refine H.draws (.nil) (by kernel_rfl) ?_
                      refine HA.take (i := 0) rfl rfl (ltn rfl) (by kernel_rfl) (by kernel_rfl) (by kernel_rfl) (gives_of want_none (V.move rfl)) (Sub.nil) rfl ?_
                      refine HA.take (i := 1) rfl rfl (ltn rfl) (by kernel_rfl) (by kernel_rfl) (by kernel_rfl) (gives_of want_none (V.move rfl)) (Sub.nil) rfl ?_
                      refine HA.take (i := 2) rfl rfl (ltn rfl) (by kernel_rfl) (by kernel_rfl) (by kernel_rfl) (gives_of want_none (V.quo rfl rfl (by first | exact (hcd (by assumption) (by assumption)).1) (by omega))) (Sub.nil) rfl ?_
                      refine HA.take (i := 3) rfl rfl (ltn rfl) (by kernel_rfl) (by kernel_rfl) (by kernel_rfl) (gives_of want_none (V.assign rfl)) (Sub.nil) rfl ?_
                      refine HA.take (i := 4) rfl rfl (ltn rfl) (by kernel_rfl) (by kernel_rfl) (by kernel_rfl) (gives_of want_none (V.assign rfl)) (Sub.nil) rfl ?_
                      refine HA.take (i := 5) rfl rfl (ltn rfl) (by kernel_rfl) (by kernel_rfl) (by kernel_rfl) (gives_of want_none (V.assign rfl)) (Sub.nil) rfl ?_
                      refine HA.done (by kernel_rfl) ?_
                      refine HQ.keep (.cons (t := 8) rfl (.cons (t := 9) rfl (.cons (t := 10) rfl (.nil)))) ?_
                      refine HQ.next ?_
                      refine H.ret ?_
                      refine HQ.block_ret ?_
                      refine HQ.block_ret ?_
                      refine HQ.then_ret ?_
                      refine HQ.end_ rfl rfl rfl rfl (.inl rfl) _ (fun a w s => res3 Tryd.results55 s rfl rfl rfl) ?_
                      exact ⟨_, _, .nil, by unfold together; first | (simp_all; done) | ((repeat' split) <;> simp_all <;> (intros; omega)), rfl⟩
                    · skip
                      try simp only [decide_eq_true_eq, decide_eq_false_iff_not, Bool.not_eq_true', Bool.not_eq_false'] at h60
                      refine H.skip ?_
                      refine HQ.block_normal ?_
                      refine HQ.block_normal ?_
                      refine HQ.next ?_
                      refine H.seq ?_
                      refine H.region ?_
                      refine HO.v (V.assign rfl) (ltn rfl) ?_
                      refine HO.v (V.assign rfl) (ltn rfl) ?_
                      refine HO.v (V.assign rfl) (ltn rfl) ?_
                      refine HO.nil ?_
                      refine HQ.next ?_
                      refine H.ret ?_
                      refine HQ.end_ rfl rfl rfl rfl (.inl rfl) _ (fun a w s => res3 Tryd.results55 s rfl rfl rfl) ?_
                      exact ⟨_, _, .nil, by unfold together; first | (simp_all; done) | ((repeat' split) <;> simp_all <;> (intros; omega)), rfl⟩
                  · skip
                    try simp only [decide_eq_true_eq, decide_eq_false_iff_not, Bool.not_eq_true', Bool.not_eq_false'] at g63
                    refine HO.gskip rfl rfl rfl rfl (ltn rfl) ?_
                    refine HO.gskip rfl rfl rfl rfl (ltn rfl) ?_
                    refine HO.gskip rfl rfl rfl rfl (ltn rfl) ?_
                    refine HO.gskip rfl rfl rfl rfl (ltn rfl) ?_
                    refine HO.v (V.pickF rfl rfl) (ltn rfl) ?_
                    refine HO.v (V.assign rfl) (ltn rfl) ?_
                    refine HO.nil ?_
                    refine HQ.keep (.cons (t := 1) rfl (.cons (t := 3) rfl (.cons (t := 8) rfl (.cons (t := 9) rfl (.cons (t := 10) rfl (.cons (t := 60) rfl (.nil))))))) ?_
                    refine HQ.next ?_
                    refine H.condF rfl rfl ?_
                    refine H.skip ?_
                    refine HQ.block_normal ?_
                    refine HQ.block_normal ?_
                    refine HQ.next ?_
                    refine H.seq ?_
                    refine H.region ?_
                    refine HO.v (V.assign rfl) (ltn rfl) ?_
                    refine HO.v (V.assign rfl) (ltn rfl) ?_
                    refine HO.v (V.assign rfl) (ltn rfl) ?_
                    refine HO.nil ?_
                    refine HQ.next ?_
                    refine H.ret ?_
                    refine HQ.end_ rfl rfl rfl rfl (.inl rfl) _ (fun a w s => res3 Tryd.results55 s rfl rfl rfl) ?_
                    exact ⟨_, _, .nil, by unfold together; first | (simp_all; done) | ((repeat' split) <;> simp_all <;> (intros; omega)), rfl⟩
              · skip
                try simp only [decide_eq_true_eq, decide_eq_false_iff_not, Bool.not_eq_true', Bool.not_eq_false'] at g51
                refine HO.gskip rfl rfl rfl rfl (ltn rfl) ?_
                refine HO.gskip rfl rfl rfl rfl (ltn rfl) ?_
                refine HO.gskip rfl rfl rfl rfl (ltn rfl) ?_
                refine HO.gskip rfl rfl rfl rfl (ltn rfl) ?_
                refine HO.v (V.pickF rfl rfl) (ltn rfl) ?_
                refine HO.v (V.assign rfl) (ltn rfl) ?_
                refine HO.nil ?_
                refine HQ.keep (.cons (t := 1) rfl (.cons (t := 2) rfl (.cons (t := 3) rfl (.cons (t := 8) rfl (.cons (t := 9) rfl (.cons (t := 10) rfl (.cons (t := 48) rfl (.nil)))))))) ?_
                refine HQ.next ?_
                refine H.condF rfl rfl ?_
                refine H.seq ?_
                refine H.region ?_
                refine HO.v (V.move rfl) (ltn rfl) ?_
                refine HO.v (V.eqlI rfl rfl) (ltn rfl) ?_
                refine HO.v (V.move rfl) (ltn rfl) ?_
                refine HO.part (t := 63) rfl (fun g63 => ?_) (fun g63 => ?_)
                · skip
                  try simp only [decide_eq_true_eq, decide_eq_false_iff_not, Bool.not_eq_true', Bool.not_eq_false'] at g63
                  refine HO.gdo rfl rfl rfl rfl ?_
                  refine HO.v (V.move rfl) (ltn rfl) ?_
                  refine HO.gdo rfl rfl rfl rfl ?_
                  refine HO.v (V.move rfl) (ltn rfl) ?_
                  refine HO.gdo rfl rfl rfl rfl ?_
                  refine HO.v (V.rem rfl rfl (by first | exact (hcd (by assumption) (by assumption)).1)) (ltn rfl) ?_
                  refine HO.gdo rfl rfl rfl rfl ?_
                  refine HO.v (V.eqlI rfl rfl) (ltn rfl) ?_
                  refine HO.v (V.pickT rfl rfl) (ltn rfl) ?_
                  refine HO.v (V.assign rfl) (ltn rfl) ?_
                  refine HO.nil ?_
                  refine HQ.keep (.cons (t := 1) rfl (.cons (t := 3) rfl (.cons (t := 8) rfl (.cons (t := 9) rfl (.cons (t := 10) rfl (.cons (t := 60) rfl (.nil))))))) ?_
                  refine HQ.next ?_
                  refine H.condB rfl (fun h60 => ?_) (fun h60 => ?_)
                  · skip
                    try simp only [decide_eq_true_eq, decide_eq_false_iff_not, Bool.not_eq_true', Bool.not_eq_false'] at h60
                    refine H.seq ?_
                    refine H.draws (.nil) (by kernel_rfl) ?_
                    refine HA.take (i := 0) rfl rfl (ltn rfl) (by kernel_rfl) (by kernel_rfl) (by kernel_rfl) (gives_of want_none (V.move rfl)) (Sub.nil) rfl ?_
                    refine HA.take (i := 1) rfl rfl (ltn rfl) (by kernel_rfl) (by kernel_rfl) (by kernel_rfl) (gives_of want_none (V.move rfl)) (Sub.nil) rfl ?_
                    refine HA.take (i := 2) rfl rfl (ltn rfl) (by kernel_rfl) (by kernel_rfl) (by kernel_rfl) (gives_of want_none (V.quo rfl rfl (by first | exact (hcd (by assumption) (by assumption)).1) (by omega))) (Sub.nil) rfl ?_
                    refine HA.take (i := 3) rfl rfl (ltn rfl) (by kernel_rfl) (by kernel_rfl) (by kernel_rfl) (gives_of want_none (V.assign rfl)) (Sub.nil) rfl ?_
                    refine HA.take (i := 4) rfl rfl (ltn rfl) (by kernel_rfl) (by kernel_rfl) (by kernel_rfl) (gives_of want_none (V.assign rfl)) (Sub.nil) rfl ?_
                    refine HA.take (i := 5) rfl rfl (ltn rfl) (by kernel_rfl) (by kernel_rfl) (by kernel_rfl) (gives_of want_none (V.assign rfl)) (Sub.nil) rfl ?_
                    refine HA.done (by kernel_rfl) ?_
                    refine HQ.keep (.cons (t := 8) rfl (.cons (t := 9) rfl (.cons (t := 10) rfl (.nil)))) ?_
                    refine HQ.next ?_
                    refine H.ret ?_
                    refine HQ.block_ret ?_
                    refine HQ.block_ret ?_
                    refine HQ.then_ret ?_
                    refine HQ.end_ rfl rfl rfl rfl (.inl rfl) _ (fun a w s => res3 Tryd.results55 s rfl rfl rfl) ?_
                    exact ⟨_, _, .nil, by unfold together; first | (simp_all; done) | ((repeat' split) <;> simp_all <;> (intros; omega)), rfl⟩
                  · skip
                    try simp only [decide_eq_true_eq, decide_eq_false_iff_not, Bool.not_eq_true', Bool.not_eq_false'] at h60
                    refine H.skip ?_
                    refine HQ.block_normal ?_
                    refine HQ.block_normal ?_
                    refine HQ.next ?_
                    refine H.seq ?_
                    refine H.region ?_
                    refine HO.v (V.assign rfl) (ltn rfl) ?_
                    refine HO.v (V.assign rfl) (ltn rfl) ?_
                    refine HO.v (V.assign rfl) (ltn rfl) ?_
                    refine HO.nil ?_
                    refine HQ.next ?_
                    refine H.ret ?_
                    refine HQ.end_ rfl rfl rfl rfl (.inl rfl) _ (fun a w s => res3 Tryd.results55 s rfl rfl rfl) ?_
                    exact ⟨_, _, .nil, by unfold together; first | (simp_all; done) | ((repeat' split) <;> simp_all <;> (intros; omega)), rfl⟩
                · skip
                  try simp only [decide_eq_true_eq, decide_eq_false_iff_not, Bool.not_eq_true', Bool.not_eq_false'] at g63
                  refine HO.gskip rfl rfl rfl rfl (ltn rfl) ?_
                  refine HO.gskip rfl rfl rfl rfl (ltn rfl) ?_
                  refine HO.gskip rfl rfl rfl rfl (ltn rfl) ?_
                  refine HO.gskip rfl rfl rfl rfl (ltn rfl) ?_
                  refine HO.v (V.pickF rfl rfl) (ltn rfl) ?_
                  refine HO.v (V.assign rfl) (ltn rfl) ?_
                  refine HO.nil ?_
                  refine HQ.keep (.cons (t := 1) rfl (.cons (t := 3) rfl (.cons (t := 8) rfl (.cons (t := 9) rfl (.cons (t := 10) rfl (.cons (t := 60) rfl (.nil))))))) ?_
                  refine HQ.next ?_
                  refine H.condF rfl rfl ?_
                  refine H.skip ?_
                  refine HQ.block_normal ?_
                  refine HQ.block_normal ?_
                  refine HQ.next ?_
                  refine H.seq ?_
                  refine H.region ?_
                  refine HO.v (V.assign rfl) (ltn rfl) ?_
                  refine HO.v (V.assign rfl) (ltn rfl) ?_
                  refine HO.v (V.assign rfl) (ltn rfl) ?_
                  refine HO.nil ?_
                  refine HQ.next ?_
                  refine H.ret ?_
                  refine HQ.end_ rfl rfl rfl rfl (.inl rfl) _ (fun a w s => res3 Tryd.results55 s rfl rfl rfl) ?_
                  exact ⟨_, _, .nil, by unfold together; first | (simp_all; done) | ((repeat' split) <;> simp_all <;> (intros; omega)), rfl⟩
          · skip
            try simp only [decide_eq_true_eq, decide_eq_false_iff_not, Bool.not_eq_true', Bool.not_eq_false'] at g39
            refine HO.gskip rfl rfl rfl rfl (ltn rfl) ?_
            refine HO.gskip rfl rfl rfl rfl (ltn rfl) ?_
            refine HO.gskip rfl rfl rfl rfl (ltn rfl) ?_
            refine HO.gskip rfl rfl rfl rfl (ltn rfl) ?_
            refine HO.v (V.pickF rfl rfl) (ltn rfl) ?_
            refine HO.v (V.assign rfl) (ltn rfl) ?_
            refine HO.nil ?_
            refine HQ.keep (.cons (t := 1) rfl (.cons (t := 2) rfl (.cons (t := 3) rfl (.cons (t := 8) rfl (.cons (t := 9) rfl (.cons (t := 10) rfl (.cons (t := 36) rfl (.nil)))))))) ?_
            refine HQ.next ?_
            refine H.condF rfl rfl ?_
            refine H.seq ?_
            refine H.region ?_
            refine HO.v (V.move rfl) (ltn rfl) ?_
            refine HO.v (V.eqlI rfl rfl) (ltn rfl) ?_
            refine HO.v (V.move rfl) (ltn rfl) ?_
            refine HO.part (t := 51) rfl (fun g51 => ?_) (fun g51 => ?_)
            · skip
              try simp only [decide_eq_true_eq, decide_eq_false_iff_not, Bool.not_eq_true', Bool.not_eq_false'] at g51
              refine HO.gdo rfl rfl rfl rfl ?_
              refine HO.v (V.move rfl) (ltn rfl) ?_
              refine HO.gdo rfl rfl rfl rfl ?_
              refine HO.v (V.move rfl) (ltn rfl) ?_
              refine HO.gdo rfl rfl rfl rfl ?_
              refine HO.v (V.rem rfl rfl (by first | exact (hcd (by assumption) (by assumption)).2)) (ltn rfl) ?_
              refine HO.gdo rfl rfl rfl rfl ?_
              refine HO.v (V.eqlI rfl rfl) (ltn rfl) ?_
              refine HO.v (V.pickT rfl rfl) (ltn rfl) ?_
              refine HO.v (V.assign rfl) (ltn rfl) ?_
              refine HO.nil ?_
              refine HQ.keep (.cons (t := 1) rfl (.cons (t := 2) rfl (.cons (t := 3) rfl (.cons (t := 8) rfl (.cons (t := 9) rfl (.cons (t := 10) rfl (.cons (t := 48) rfl (.nil)))))))) ?_
              refine HQ.next ?_
              refine H.condB rfl (fun h48 => ?_) (fun h48 => ?_)
              · skip
                try simp only [decide_eq_true_eq, decide_eq_false_iff_not, Bool.not_eq_true', Bool.not_eq_false'] at h48
                refine H.seq ?_
                refine H.draws (.nil) (by kernel_rfl) ?_
                refine HA.take (i := 0) rfl rfl (ltn rfl) (by kernel_rfl) (by kernel_rfl) (by kernel_rfl) (gives_of want_none (V.move rfl)) (Sub.nil) rfl ?_
                refine HA.take (i := 1) rfl rfl (ltn rfl) (by kernel_rfl) (by kernel_rfl) (by kernel_rfl) (gives_of want_none (V.move rfl)) (Sub.nil) rfl ?_
                refine HA.take (i := 2) rfl rfl (ltn rfl) (by kernel_rfl) (by kernel_rfl) (by kernel_rfl) (gives_of want_none (V.quo rfl rfl (by first | exact (hcd (by assumption) (by assumption)).2) (by omega))) (Sub.nil) rfl ?_
                refine HA.take (i := 3) rfl rfl (ltn rfl) (by kernel_rfl) (by kernel_rfl) (by kernel_rfl) (gives_of want_none (V.assign rfl)) (Sub.nil) rfl ?_
                refine HA.take (i := 4) rfl rfl (ltn rfl) (by kernel_rfl) (by kernel_rfl) (by kernel_rfl) (gives_of want_none (V.assign rfl)) (Sub.nil) rfl ?_
                refine HA.take (i := 5) rfl rfl (ltn rfl) (by kernel_rfl) (by kernel_rfl) (by kernel_rfl) (gives_of want_none (V.assign rfl)) (Sub.nil) rfl ?_
                refine HA.done (by kernel_rfl) ?_
                refine HQ.keep (.cons (t := 8) rfl (.cons (t := 9) rfl (.cons (t := 10) rfl (.nil)))) ?_
                refine HQ.next ?_
                refine H.ret ?_
                refine HQ.block_ret ?_
                refine HQ.block_ret ?_
                refine HQ.then_ret ?_
                refine HQ.end_ rfl rfl rfl rfl (.inl rfl) _ (fun a w s => res3 Tryd.results55 s rfl rfl rfl) ?_
                exact ⟨_, _, .nil, by unfold together; first | (simp_all; done) | ((repeat' split) <;> simp_all <;> (intros; omega)), rfl⟩
              · skip
                try simp only [decide_eq_true_eq, decide_eq_false_iff_not, Bool.not_eq_true', Bool.not_eq_false'] at h48
                refine H.seq ?_
                refine H.region ?_
                refine HO.v (V.move rfl) (ltn rfl) ?_
                refine HO.v (V.eqlI rfl rfl) (ltn rfl) ?_
                refine HO.v (V.move rfl) (ltn rfl) ?_
                refine HO.part (t := 63) rfl (fun g63 => ?_) (fun g63 => ?_)
                · skip
                  try simp only [decide_eq_true_eq, decide_eq_false_iff_not, Bool.not_eq_true', Bool.not_eq_false'] at g63
                  refine HO.gdo rfl rfl rfl rfl ?_
                  refine HO.v (V.move rfl) (ltn rfl) ?_
                  refine HO.gdo rfl rfl rfl rfl ?_
                  refine HO.v (V.move rfl) (ltn rfl) ?_
                  refine HO.gdo rfl rfl rfl rfl ?_
                  refine HO.v (V.rem rfl rfl (by first | exact (hcd (by assumption) (by assumption)).1)) (ltn rfl) ?_
                  refine HO.gdo rfl rfl rfl rfl ?_
                  refine HO.v (V.eqlI rfl rfl) (ltn rfl) ?_
                  refine HO.v (V.pickT rfl rfl) (ltn rfl) ?_
                  refine HO.v (V.assign rfl) (ltn rfl) ?_
                  refine HO.nil ?_
                  refine HQ.keep (.cons (t := 1) rfl (.cons (t := 3) rfl (.cons (t := 8) rfl (.cons (t := 9) rfl (.cons (t := 10) rfl (.cons (t := 60) rfl (.nil))))))) ?_
                  refine HQ.next ?_
                  refine H.condB rfl (fun h60 => ?_) (fun h60 => ?_)
                  · skip
                    try simp only [decide_eq_true_eq, decide_eq_false_iff_not, Bool.not_eq_true', Bool.not_eq_false'] at h60
                    refine H.seq ?_
                    refine H.draws (.nil) (by kernel_rfl) ?_
                    refine HA.take (i := 0) rfl rfl (ltn rfl) (by kernel_rfl) (by kernel_rfl) (by kernel_rfl) (gives_of want_none (V.move rfl)) (Sub.nil) rfl ?_
                    refine HA.take (i := 1) rfl rfl (ltn rfl) (by kernel_rfl) (by kernel_rfl) (by kernel_rfl) (gives_of want_none (V.move rfl)) (Sub.nil) rfl ?_
                    refine HA.take (i := 2) rfl rfl (ltn rfl) (by kernel_rfl) (by kernel_rfl) (by kernel_rfl) (gives_of want_none (V.quo rfl rfl (by first | exact (hcd (by assumption) (by assumption)).1) (by omega))) (Sub.nil) rfl ?_
                    refine HA.take (i := 3) rfl rfl (ltn rfl) (by kernel_rfl) (by kernel_rfl) (by kernel_rfl) (gives_of want_none (V.assign rfl)) (Sub.nil) rfl ?_
                    refine HA.take (i := 4) rfl rfl (ltn rfl) (by kernel_rfl) (by kernel_rfl) (by kernel_rfl) (gives_of want_none (V.assign rfl)) (Sub.nil) rfl ?_
                    refine HA.take (i := 5) rfl rfl (ltn rfl) (by kernel_rfl) (by kernel_rfl) (by kernel_rfl) (gives_of want_none (V.assign rfl)) (Sub.nil) rfl ?_
                    refine HA.done (by kernel_rfl) ?_
                    refine HQ.keep (.cons (t := 8) rfl (.cons (t := 9) rfl (.cons (t := 10) rfl (.nil)))) ?_
                    refine HQ.next ?_
                    refine H.ret ?_
                    refine HQ.block_ret ?_
                    refine HQ.block_ret ?_
                    refine HQ.then_ret ?_
                    refine HQ.end_ rfl rfl rfl rfl (.inl rfl) _ (fun a w s => res3 Tryd.results55 s rfl rfl rfl) ?_
                    exact ⟨_, _, .nil, by unfold together; first | (simp_all; done) | ((repeat' split) <;> simp_all <;> (intros; omega)), rfl⟩
                  · skip
                    try simp only [decide_eq_true_eq, decide_eq_false_iff_not, Bool.not_eq_true', Bool.not_eq_false'] at h60
                    refine H.skip ?_
                    refine HQ.block_normal ?_
                    refine HQ.block_normal ?_
                    refine HQ.next ?_
                    refine H.seq ?_
                    refine H.region ?_
                    refine HO.v (V.assign rfl) (ltn rfl) ?_
                    refine HO.v (V.assign rfl) (ltn rfl) ?_
                    refine HO.v (V.assign rfl) (ltn rfl) ?_
                    refine HO.nil ?_
                    refine HQ.next ?_
                    refine H.ret ?_
                    refine HQ.end_ rfl rfl rfl rfl (.inl rfl) _ (fun a w s => res3 Tryd.results55 s rfl rfl rfl) ?_
                    exact ⟨_, _, .nil, by unfold together; first | (simp_all; done) | ((repeat' split) <;> simp_all <;> (intros; omega)), rfl⟩
                · skip
                  try simp only [decide_eq_true_eq, decide_eq_false_iff_not, Bool.not_eq_true', Bool.not_eq_false'] at g63
                  refine HO.gskip rfl rfl rfl rfl (ltn rfl) ?_
                  refine HO.gskip rfl rfl rfl rfl (ltn rfl) ?_
                  refine HO.gskip rfl rfl rfl rfl (ltn rfl) ?_
                  refine HO.gskip rfl rfl rfl rfl (ltn rfl) ?_
                  refine HO.v (V.pickF rfl rfl) (ltn rfl) ?_
                  refine HO.v (V.assign rfl) (ltn rfl) ?_
                  refine HO.nil ?_
                  refine HQ.keep (.cons (t := 1) rfl (.cons (t := 3) rfl (.cons (t := 8) rfl (.cons (t := 9) rfl (.cons (t := 10) rfl (.cons (t := 60) rfl (.nil))))))) ?_
                  refine HQ.next ?_
                  refine H.condF rfl rfl ?_
                  refine H.skip ?_
                  refine HQ.block_normal ?_
                  refine HQ.block_normal ?_
                  refine HQ.next ?_
                  refine H.seq ?_
                  refine H.region ?_
                  refine HO.v (V.assign rfl) (ltn rfl) ?_
                  refine HO.v (V.assign rfl) (ltn rfl) ?_
                  refine HO.v (V.assign rfl) (ltn rfl) ?_
                  refine HO.nil ?_
                  refine HQ.next ?_
                  refine H.ret ?_
                  refine HQ.end_ rfl rfl rfl rfl (.inl rfl) _ (fun a w s => res3 Tryd.results55 s rfl rfl rfl) ?_
                  exact ⟨_, _, .nil, by unfold together; first | (simp_all; done) | ((repeat' split) <;> simp_all <;> (intros; omega)), rfl⟩
            · skip
              try simp only [decide_eq_true_eq, decide_eq_false_iff_not, Bool.not_eq_true', Bool.not_eq_false'] at g51
              refine HO.gskip rfl rfl rfl rfl (ltn rfl) ?_
              refine HO.gskip rfl rfl rfl rfl (ltn rfl) ?_
              refine HO.gskip rfl rfl rfl rfl (ltn rfl) ?_
              refine HO.gskip rfl rfl rfl rfl (ltn rfl) ?_
              refine HO.v (V.pickF rfl rfl) (ltn rfl) ?_
              refine HO.v (V.assign rfl) (ltn rfl) ?_
              refine HO.nil ?_
              refine HQ.keep (.cons (t := 1) rfl (.cons (t := 2) rfl (.cons (t := 3) rfl (.cons (t := 8) rfl (.cons (t := 9) rfl (.cons (t := 10) rfl (.cons (t := 48) rfl (.nil)))))))) ?_
              refine HQ.next ?_
              refine H.condF rfl rfl ?_
              refine H.seq ?_
              refine H.region ?_
              refine HO.v (V.move rfl) (ltn rfl) ?_
              refine HO.v (V.eqlI rfl rfl) (ltn rfl) ?_
              refine HO.v (V.move rfl) (ltn rfl) ?_
              refine HO.part (t := 63) rfl (fun g63 => ?_) (fun g63 => ?_)
              · skip
                try simp only [decide_eq_true_eq, decide_eq_false_iff_not, Bool.not_eq_true', Bool.not_eq_false'] at g63
                refine HO.gdo rfl rfl rfl rfl ?_
                refine HO.v (V.move rfl) (ltn rfl) ?_
                refine HO.gdo rfl rfl rfl rfl ?_
                refine HO.v (V.move rfl) (ltn rfl) ?_
                refine HO.gdo rfl rfl rfl rfl ?_
                refine HO.v (V.rem rfl rfl (by first | exact (hcd (by assumption) (by assumption)).1)) (ltn rfl) ?_
                refine HO.gdo rfl rfl rfl rfl ?_
                refine HO.v (V.eqlI rfl rfl) (ltn rfl) ?_
                refine HO.v (V.pickT rfl rfl) (ltn rfl) ?_
                refine HO.v (V.assign rfl) (ltn rfl) ?_
                refine HO.nil ?_
                refine HQ.keep (.cons (t := 1) rfl (.cons (t := 3) rfl (.cons (t := 8) rfl (.cons (t := 9) rfl (.cons (t := 10) rfl (.cons (t := 60) rfl (.nil))))))) ?_
                refine HQ.next ?_
                refine H.condB rfl (fun h60 => ?_) (fun h60 => ?_)
                · skip
                  try simp only [decide_eq_true_eq, decide_eq_false_iff_not, Bool.not_eq_true', Bool.not_eq_false'] at h60
                  refine H.seq ?_
                  refine H.draws (.nil) (by kernel_rfl) ?_
                  refine HA.take (i := 0) rfl rfl (ltn rfl) (by kernel_rfl) (by kernel_rfl) (by kernel_rfl) (gives_of want_none (V.move rfl)) (Sub.nil) rfl ?_
                  refine HA.take (i := 1) rfl rfl (ltn rfl) (by kernel_rfl) (by kernel_rfl) (by kernel_rfl) (gives_of want_none (V.move rfl)) (Sub.nil) rfl ?_
                  refine HA.take (i := 2) rfl rfl (ltn rfl) (by kernel_rfl) (by kernel_rfl) (by kernel_rfl) (gives_of want_none (V.quo rfl rfl (by first | exact (hcd (by assumption) (by assumption)).1) (by omega))) (Sub.nil) rfl ?_
                  refine HA.take (i := 3) rfl rfl (ltn rfl) (by kernel_rfl) (by kernel_rfl) (by kernel_rfl) (gives_of want_none (V.assign rfl)) (Sub.nil) rfl ?_
                  refine HA.take (i := 4) rfl rfl (ltn rfl) (by kernel_rfl) (by kernel_rfl) (by kernel_rfl) (gives_of want_none (V.assign rfl)) (Sub.nil) rfl ?_
                  refine HA.take (i := 5) rfl rfl (ltn rfl) (by kernel_rfl) (by kernel_rfl) (by kernel_rfl) (gives_of want_none (V.assign rfl)) (Sub.nil) rfl ?_
                  refine HA.done (by kernel_rfl) ?_
                  refine HQ.keep (.cons (t := 8) rfl (.cons (t := 9) rfl (.cons (t := 10) rfl (.nil)))) ?_
                  refine HQ.next ?_
                  refine H.ret ?_
                  refine HQ.block_ret ?_
                  refine HQ.block_ret ?_
                  refine HQ.then_ret ?_
                  refine HQ.end_ rfl rfl rfl rfl (.inl rfl) _ (fun a w s => res3 Tryd.results55 s rfl rfl rfl) ?_
                  exact ⟨_, _, .nil, by unfold together; first | (simp_all; done) | ((repeat' split) <;> simp_all <;> (intros; omega)), rfl⟩
                · skip
                  try simp only [decide_eq_true_eq, decide_eq_false_iff_not, Bool.not_eq_true', Bool.not_eq_false'] at h60
                  refine H.skip ?_
                  refine HQ.block_normal ?_
                  refine HQ.block_normal ?_
                  refine HQ.next ?_
                  refine H.seq ?_
                  refine H.region ?_
                  refine HO.v (V.assign rfl) (ltn rfl) ?_
                  refine HO.v (V.assign rfl) (ltn rfl) ?_
                  refine HO.v (V.assign rfl) (ltn rfl) ?_
                  refine HO.nil ?_
                  refine HQ.next ?_
                  refine H.ret ?_
                  refine HQ.end_ rfl rfl rfl rfl (.inl rfl) _ (fun a w s => res3 Tryd.results55 s rfl rfl rfl) ?_
                  exact ⟨_, _, .nil, by unfold together; first | (simp_all; done) | ((repeat' split) <;> simp_all <;> (intros; omega)), rfl⟩
              · skip
                try simp only [decide_eq_true_eq, decide_eq_false_iff_not, Bool.not_eq_true', Bool.not_eq_false'] at g63
                refine HO.gskip rfl rfl rfl rfl (ltn rfl) ?_
                refine HO.gskip rfl rfl rfl rfl (ltn rfl) ?_
                refine HO.gskip rfl rfl rfl rfl (ltn rfl) ?_
                refine HO.gskip rfl rfl rfl rfl (ltn rfl) ?_
                refine HO.v (V.pickF rfl rfl) (ltn rfl) ?_
                refine HO.v (V.assign rfl) (ltn rfl) ?_
                refine HO.nil ?_
                refine HQ.keep (.cons (t := 1) rfl (.cons (t := 3) rfl (.cons (t := 8) rfl (.cons (t := 9) rfl (.cons (t := 10) rfl (.cons (t := 60) rfl (.nil))))))) ?_
                refine HQ.next ?_
                refine H.condF rfl rfl ?_
                refine H.skip ?_
                refine HQ.block_normal ?_
                refine HQ.block_normal ?_
                refine HQ.next ?_
                refine H.seq ?_
                refine H.region ?_
                refine HO.v (V.assign rfl) (ltn rfl) ?_
                refine HO.v (V.assign rfl) (ltn rfl) ?_
                refine HO.v (V.assign rfl) (ltn rfl) ?_
                refine HO.nil ?_
                refine HQ.next ?_
                refine H.ret ?_
                refine HQ.end_ rfl rfl rfl rfl (.inl rfl) _ (fun a w s => res3 Tryd.results55 s rfl rfl rfl) ?_
                exact ⟨_, _, .nil, by unfold together; first | (simp_all; done) | ((repeat' split) <;> simp_all <;> (intros; omega)), rfl⟩
      · skip
        try simp only [decide_eq_true_eq, decide_eq_false_iff_not, Bool.not_eq_true', Bool.not_eq_false'] at h29
        refine H.seq ?_
        refine H.region ?_
        refine HO.v (V.eqlI rfl rfl) (ltn rfl) ?_
        refine HO.v (V.assign rfl) (ltn rfl) ?_
        refine HO.nil ?_
        refine HQ.keep (.cons (t := 1) rfl (.cons (t := 2) rfl (.cons (t := 3) rfl (.cons (t := 8) rfl (.cons (t := 9) rfl (.cons (t := 10) rfl (.cons (t := 11) rfl (.cons (t := 72) rfl (.nil))))))))) ?_
        refine HQ.next ?_
        refine H.condB rfl (fun h72 => ?_) (fun h72 => ?_)
        · skip
          try simp only [decide_eq_true_eq, decide_eq_false_iff_not, Bool.not_eq_true', Bool.not_eq_false'] at h72
          refine H.block ?_
          refine H.seq ?_
          refine H.region ?_
          refine HO.v (V.move rfl) (ltn rfl) ?_
          refine HO.v (V.eqlI rfl rfl) (ltn rfl) ?_
          refine HO.v (V.assign rfl) (ltn rfl) ?_
          refine HO.nil ?_
          refine HQ.keep (.cons (t := 1) rfl (.cons (t := 2) rfl (.cons (t := 3) rfl (.cons (t := 8) rfl (.cons (t := 9) rfl (.cons (t := 10) rfl (.cons (t := 74) rfl (.nil)))))))) ?_
          refine HQ.next ?_
          refine H.condB rfl (fun h74 => ?_) (fun h74 => ?_)
          · skip
            try simp only [decide_eq_true_eq, decide_eq_false_iff_not, Bool.not_eq_true', Bool.not_eq_false'] at h74
            refine H.seq ?_
            refine H.region ?_
            refine HO.v (V.move rfl) (ltn rfl) ?_
            refine HO.v (V.neg rfl (by omega)) (ltn rfl) ?_
            refine HO.v (V.assign rfl) (ltn rfl) ?_
            refine HO.v (V.assign rfl) (ltn rfl) ?_
            refine HO.v (V.assign rfl) (ltn rfl) ?_
            refine HO.nil ?_
            refine HQ.keep (.cons (t := 8) rfl (.cons (t := 9) rfl (.cons (t := 10) rfl (.nil)))) ?_
            refine HQ.next ?_
            refine H.ret ?_
            refine HQ.block_ret ?_
            refine HQ.block_ret ?_
            refine HQ.then_ret ?_
            refine HQ.end_ rfl rfl rfl rfl (.inl rfl) _ (fun a w s => res3 Tryd.results55 s rfl rfl rfl) ?_
            exact ⟨_, _, .nil, by unfold together; first | (simp_all; done) | ((repeat' split) <;> simp_all <;> (intros; omega)), rfl⟩
          · skip
            try simp only [decide_eq_true_eq, decide_eq_false_iff_not, Bool.not_eq_true', Bool.not_eq_false'] at h74
            refine H.seq ?_
            refine H.region ?_
            refine HO.v (V.move rfl) (ltn rfl) ?_
            refine HO.v (V.eqlI rfl rfl) (ltn rfl) ?_
            refine HO.v (V.move rfl) (ltn rfl) ?_
            refine HO.part (t := 82) rfl (fun g82 => ?_) (fun g82 => ?_)
            · skip
              try simp only [decide_eq_true_eq, decide_eq_false_iff_not, Bool.not_eq_true', Bool.not_eq_false'] at g82
              refine HO.gdo rfl rfl rfl rfl ?_
              refine HO.v (V.move rfl) (ltn rfl) ?_
              refine HO.gdo rfl rfl rfl rfl ?_
              refine HO.v (V.move rfl) (ltn rfl) ?_
              refine HO.gdo rfl rfl rfl rfl ?_
              refine HO.v (V.mul rfl rfl (by omega)) (ltn rfl) ?_
              refine HO.gdo rfl rfl rfl rfl ?_
              refine HO.call ca70 (.cons rfl (.nil)) (fits_w _) (by exact Rems.nil) (by exact Reads.nil) (ltn rfl) ?_
              rintro v86 L86 ⟨rfl, rfl⟩
              dsimp only [List.nil_append, List.cons_append]
              refine HO.v (V.pickT rfl rfl) (ltn rfl) ?_
              refine HO.v (V.assign rfl) (ltn rfl) ?_
              refine HO.nil ?_
              refine HQ.keep (.cons (t := 1) rfl (.cons (t := 3) rfl (.cons (t := 8) rfl (.cons (t := 9) rfl (.cons (t := 10) rfl (.cons (t := 79) rfl (.nil))))))) ?_
              refine HQ.next ?_
              refine H.condB rfl (fun h79 => ?_) (fun h79 => ?_)
              · skip
                try simp only [decide_eq_true_eq, decide_eq_false_iff_not, Bool.not_eq_true', Bool.not_eq_false'] at h79
                refine H.seq ?_
                refine H.region ?_
                refine HO.v (V.move rfl) (ltn rfl) ?_
                refine HO.v (V.move rfl) (ltn rfl) ?_
                refine HO.v (V.mul rfl rfl (by omega)) (ltn rfl) ?_
                refine HO.v (V.assign rfl) (ltn rfl) ?_
                refine HO.v (V.assign rfl) (ltn rfl) ?_
                refine HO.v (V.assign rfl) (ltn rfl) ?_
                refine HO.nil ?_
                refine HQ.keep (.cons (t := 8) rfl (.cons (t := 9) rfl (.cons (t := 10) rfl (.nil)))) ?_
                refine HQ.next ?_
                refine H.ret ?_
                refine HQ.block_ret ?_
                refine HQ.block_ret ?_
                refine HQ.then_ret ?_
                refine HQ.end_ rfl rfl rfl rfl (.inl rfl) _ (fun a w s => res3 Tryd.results55 s rfl rfl rfl) ?_
                exact ⟨_, _, .nil, by unfold together; first | (simp_all; done) | ((repeat' split) <;> simp_all <;> (intros; omega)), rfl⟩
              · skip
                try simp only [decide_eq_true_eq, decide_eq_false_iff_not, Bool.not_eq_true', Bool.not_eq_false'] at h79
                refine H.skip ?_
                refine HQ.block_normal ?_
                refine HQ.block_normal ?_
                refine HQ.next ?_
                refine H.seq ?_
                refine H.region ?_
                refine HO.v (V.assign rfl) (ltn rfl) ?_
                refine HO.v (V.assign rfl) (ltn rfl) ?_
                refine HO.v (V.assign rfl) (ltn rfl) ?_
                refine HO.nil ?_
                refine HQ.next ?_
                refine H.ret ?_
                refine HQ.end_ rfl rfl rfl rfl (.inl rfl) _ (fun a w s => res3 Tryd.results55 s rfl rfl rfl) ?_
                exact ⟨_, _, .nil, by unfold together; first | (simp_all; done) | ((repeat' split) <;> simp_all <;> (intros; omega)), rfl⟩
            · skip
              try simp only [decide_eq_true_eq, decide_eq_false_iff_not, Bool.not_eq_true', Bool.not_eq_false'] at g82
              refine HO.gskip rfl rfl rfl rfl (ltn rfl) ?_
              refine HO.gskip rfl rfl rfl rfl (ltn rfl) ?_
              refine HO.gskip rfl rfl rfl rfl (ltn rfl) ?_
              refine HO.gskip rfl rfl rfl rfl (ltn rfl) ?_
              refine HO.v (V.pickF rfl rfl) (ltn rfl) ?_
              refine HO.v (V.assign rfl) (ltn rfl) ?_
              refine HO.nil ?_
              refine HQ.keep (.cons (t := 1) rfl (.cons (t := 3) rfl (.cons (t := 8) rfl (.cons (t := 9) rfl (.cons (t := 10) rfl (.cons (t := 79) rfl (.nil))))))) ?_
              refine HQ.next ?_
              refine H.condF rfl rfl ?_
              refine H.skip ?_
              refine HQ.block_normal ?_
              refine HQ.block_normal ?_
              refine HQ.next ?_
              refine H.seq ?_
              refine H.region ?_
              refine HO.v (V.assign rfl) (ltn rfl) ?_
              refine HO.v (V.assign rfl) (ltn rfl) ?_
              refine HO.v (V.assign rfl) (ltn rfl) ?_
              refine HO.nil ?_
              refine HQ.next ?_
              refine H.ret ?_
              refine HQ.end_ rfl rfl rfl rfl (.inl rfl) _ (fun a w s => res3 Tryd.results55 s rfl rfl rfl) ?_
              exact ⟨_, _, .nil, by unfold together; first | (simp_all; done) | ((repeat' split) <;> simp_all <;> (intros; omega)), rfl⟩
        · skip
          try simp only [decide_eq_true_eq, decide_eq_false_iff_not, Bool.not_eq_true', Bool.not_eq_false'] at h72
          refine H.seq ?_
          refine H.region ?_
          refine HO.v (V.eqlI rfl rfl) (ltn rfl) ?_
          refine HO.v (V.assign rfl) (ltn rfl) ?_
          refine HO.nil ?_
          refine HQ.keep (.cons (t := 1) rfl (.cons (t := 2) rfl (.cons (t := 3) rfl (.cons (t := 8) rfl (.cons (t := 9) rfl (.cons (t := 10) rfl (.cons (t := 11) rfl (.cons (t := 91) rfl (.nil))))))))) ?_
          refine HQ.next ?_
          refine H.condB rfl (fun h91 => ?_) (fun h91 => ?_)
          · skip
            try simp only [decide_eq_true_eq, decide_eq_false_iff_not, Bool.not_eq_true', Bool.not_eq_false'] at h91
            refine H.block ?_
            refine H.seq ?_
            refine H.region ?_
            refine HO.v (V.move rfl) (ltn rfl) ?_
            refine HO.v (V.eqlI rfl rfl) (ltn rfl) ?_
            refine HO.v (V.move rfl) (ltn rfl) ?_
            refine HO.part (t := 99) rfl (fun g99 => ?_) (fun g99 => ?_)
            · skip
              try simp only [decide_eq_true_eq, decide_eq_false_iff_not, Bool.not_eq_true', Bool.not_eq_false'] at g99
              refine HO.gdo rfl rfl rfl rfl ?_
              refine HO.v (V.move rfl) (ltn rfl) ?_
              refine HO.gdo rfl rfl rfl rfl ?_
              refine HO.v (V.move rfl) (ltn rfl) ?_
              refine HO.gdo rfl rfl rfl rfl ?_
              refine HO.v (V.add rfl rfl (by omega)) (ltn rfl) ?_
              refine HO.gdo rfl rfl rfl rfl ?_
              refine HO.v (V.leq rfl rfl) (ltn rfl) ?_
              refine HO.v (V.pickT rfl rfl) (ltn rfl) ?_
              refine HO.v (V.assign rfl) (ltn rfl) ?_
              refine HO.nil ?_
              refine HQ.keep (.cons (t := 1) rfl (.cons (t := 2) rfl (.cons (t := 3) rfl (.cons (t := 8) rfl (.cons (t := 9) rfl (.cons (t := 10) rfl (.cons (t := 96) rfl (.nil)))))))) ?_
              refine HQ.next ?_
              refine H.condB rfl (fun h96 => ?_) (fun h96 => ?_)
              · skip
                try simp only [decide_eq_true_eq, decide_eq_false_iff_not, Bool.not_eq_true', Bool.not_eq_false'] at h96
                refine H.seq ?_
                refine H.region ?_
                refine HO.v (V.move rfl) (ltn rfl) ?_
                refine HO.v (V.move rfl) (ltn rfl) ?_
                refine HO.v (V.add rfl rfl (by omega)) (ltn rfl) ?_
                refine HO.v (V.assign rfl) (ltn rfl) ?_
                refine HO.v (V.assign rfl) (ltn rfl) ?_
                refine HO.v (V.assign rfl) (ltn rfl) ?_
                refine HO.nil ?_
                refine HQ.keep (.cons (t := 8) rfl (.cons (t := 9) rfl (.cons (t := 10) rfl (.nil)))) ?_
                refine HQ.next ?_
                refine H.ret ?_
                refine HQ.block_ret ?_
                refine HQ.block_ret ?_
                refine HQ.then_ret ?_
                refine HQ.end_ rfl rfl rfl rfl (.inl rfl) _ (fun a w s => res3 Tryd.results55 s rfl rfl rfl) ?_
                exact ⟨_, _, .nil, by unfold together; first | (simp_all; done) | ((repeat' split) <;> simp_all <;> (intros; omega)), rfl⟩
              · skip
                try simp only [decide_eq_true_eq, decide_eq_false_iff_not, Bool.not_eq_true', Bool.not_eq_false'] at h96
                refine H.seq ?_
                refine H.region ?_
                refine HO.v (V.move rfl) (ltn rfl) ?_
                refine HO.v (V.neqI rfl rfl) (ltn rfl) ?_
                refine HO.v (V.assign rfl) (ltn rfl) ?_
                refine HO.nil ?_
                refine HQ.keep (.cons (t := 1) rfl (.cons (t := 3) rfl (.cons (t := 8) rfl (.cons (t := 9) rfl (.cons (t := 10) rfl (.cons (t := 108) rfl (.nil))))))) ?_
                refine HQ.next ?_
                refine H.condB rfl (fun h108 => ?_) (fun h108 => ?_)
                · skip
                  try simp only [decide_eq_true_eq, decide_eq_false_iff_not, Bool.not_eq_true', Bool.not_eq_false'] at h108
                  refine H.skip ?_
                  refine HQ.block_normal ?_
                  refine HQ.block_normal ?_
                  refine HQ.next ?_
                  refine H.seq ?_
                  refine H.region ?_
                  refine HO.v (V.assign rfl) (ltn rfl) ?_
                  refine HO.v (V.assign rfl) (ltn rfl) ?_
                  refine HO.v (V.assign rfl) (ltn rfl) ?_
                  refine HO.nil ?_
                  refine HQ.next ?_
                  refine H.ret ?_
                  refine HQ.end_ rfl rfl rfl rfl (.inl rfl) _ (fun a w s => res3 Tryd.results55 s rfl rfl rfl) ?_
                  exact ⟨_, _, .nil, by unfold together; first | (simp_all; done) | ((repeat' split) <;> simp_all <;> (intros; omega)), rfl⟩
                · skip
                  try simp only [decide_eq_true_eq, decide_eq_false_iff_not, Bool.not_eq_true', Bool.not_eq_false'] at h108
                  refine H.seq ?_
                  refine H.region ?_
                  refine HO.v (V.move rfl) (ltn rfl) ?_
                  refine HO.v (V.move rfl) (ltn rfl) ?_
                  refine HO.v (V.eqlI rfl rfl) (ltn rfl) ?_
                  refine HO.v (V.assign rfl) (ltn rfl) ?_
                  refine HO.nil ?_
                  refine HQ.keep (.cons (t := 1) rfl (.cons (t := 3) rfl (.cons (t := 8) rfl (.cons (t := 9) rfl (.cons (t := 10) rfl (.cons (t := 111) rfl (.nil))))))) ?_
                  refine HQ.next ?_
                  refine H.condB rfl (fun h111 => ?_) (fun h111 => ?_)
                  · skip
                    try simp only [decide_eq_true_eq, decide_eq_false_iff_not, Bool.not_eq_true', Bool.not_eq_false'] at h111
                    refine H.seq ?_
                    refine H.region ?_
                    refine HO.v (V.assign rfl) (ltn rfl) ?_
                    refine HO.v (V.assign rfl) (ltn rfl) ?_
                    refine HO.v (V.assign rfl) (ltn rfl) ?_
                    refine HO.nil ?_
                    refine HQ.next ?_
                    refine H.ret ?_
                    refine HQ.block_ret ?_
                    refine HQ.block_ret ?_
                    refine HQ.then_ret ?_
                    refine HQ.end_ rfl rfl rfl rfl (.inl rfl) _ (fun a w s => res3 Tryd.results55 s rfl rfl rfl) ?_
                    exact ⟨_, _, .nil, by unfold together; first | (simp_all; done) | ((repeat' split) <;> simp_all <;> (intros; omega)), rfl⟩
                  · skip
                    try simp only [decide_eq_true_eq, decide_eq_false_iff_not, Bool.not_eq_true', Bool.not_eq_false'] at h111
                    refine H.seq ?_
                    refine H.region ?_
                    refine HO.v (V.move rfl) (ltn rfl) ?_
                    refine HO.v (V.move rfl) (ltn rfl) ?_
                    refine HO.v (V.gtr rfl rfl) (ltn rfl) ?_
                    refine HO.v (V.assign rfl) (ltn rfl) ?_
                    refine HO.nil ?_
                    refine HQ.keep (.cons (t := 1) rfl (.cons (t := 3) rfl (.cons (t := 8) rfl (.cons (t := 9) rfl (.cons (t := 10) rfl (.cons (t := 115) rfl (.nil))))))) ?_
                    refine HQ.next ?_
                    refine H.condB rfl (fun h115 => ?_) (fun h115 => ?_)
                    · skip
                      try simp only [decide_eq_true_eq, decide_eq_false_iff_not, Bool.not_eq_true', Bool.not_eq_false'] at h115
                      refine H.seq ?_
                      refine H.region ?_
                      refine HO.v (V.move rfl) (ltn rfl) ?_
                      refine HO.v (V.move rfl) (ltn rfl) ?_
                      refine HO.v (V.sub rfl rfl (by omega)) (ltn rfl) ?_
                      refine HO.v (V.assign rfl) (ltn rfl) ?_
                      refine HO.v (V.assign rfl) (ltn rfl) ?_
                      refine HO.v (V.assign rfl) (ltn rfl) ?_
                      refine HO.nil ?_
                      refine HQ.keep (.cons (t := 8) rfl (.cons (t := 9) rfl (.cons (t := 10) rfl (.nil)))) ?_
                      refine HQ.next ?_
                      refine H.ret ?_
                      refine HQ.block_ret ?_
                      refine HQ.block_ret ?_
                      refine HQ.then_ret ?_
                      refine HQ.end_ rfl rfl rfl rfl (.inl rfl) _ (fun a w s => res3 Tryd.results55 s rfl rfl rfl) ?_
                      exact ⟨_, _, .nil, by unfold together; first | (simp_all; done) | ((repeat' split) <;> simp_all <;> (intros; omega)), rfl⟩
                    · skip
                      try simp only [decide_eq_true_eq, decide_eq_false_iff_not, Bool.not_eq_true', Bool.not_eq_false'] at h115
                      refine H.seq ?_
                      refine H.region ?_
                      refine HO.v (V.move rfl) (ltn rfl) ?_
                      refine HO.v (V.move rfl) (ltn rfl) ?_
                      refine HO.v (V.sub rfl rfl (by omega)) (ltn rfl) ?_
                      refine HO.v (V.assign rfl) (ltn rfl) ?_
                      refine HO.v (V.assign rfl) (ltn rfl) ?_
                      refine HO.v (V.assign rfl) (ltn rfl) ?_
                      refine HO.nil ?_
                      refine HQ.keep (.cons (t := 8) rfl (.cons (t := 9) rfl (.cons (t := 10) rfl (.nil)))) ?_
                      refine HQ.next ?_
                      refine H.ret ?_
                      refine HQ.block_ret ?_
                      refine HQ.block_ret ?_
                      refine HQ.then_ret ?_
                      refine HQ.end_ rfl rfl rfl rfl (.inl rfl) _ (fun a w s => res3 Tryd.results55 s rfl rfl rfl) ?_
                      exact ⟨_, _, .nil, by unfold together; first | (simp_all; done) | ((repeat' split) <;> simp_all <;> (intros; omega)), rfl⟩
            · skip
              try simp only [decide_eq_true_eq, decide_eq_false_iff_not, Bool.not_eq_true', Bool.not_eq_false'] at g99
              refine HO.gskip rfl rfl rfl rfl (ltn rfl) ?_
              refine HO.gskip rfl rfl rfl rfl (ltn rfl) ?_
              refine HO.gskip rfl rfl rfl rfl (ltn rfl) ?_
              refine HO.gskip rfl rfl rfl rfl (ltn rfl) ?_
              refine HO.v (V.pickF rfl rfl) (ltn rfl) ?_
              refine HO.v (V.assign rfl) (ltn rfl) ?_
              refine HO.nil ?_
              refine HQ.keep (.cons (t := 1) rfl (.cons (t := 2) rfl (.cons (t := 3) rfl (.cons (t := 8) rfl (.cons (t := 9) rfl (.cons (t := 10) rfl (.cons (t := 96) rfl (.nil)))))))) ?_
              refine HQ.next ?_
              refine H.condF rfl rfl ?_
              refine H.seq ?_
              refine H.region ?_
              refine HO.v (V.move rfl) (ltn rfl) ?_
              refine HO.v (V.neqI rfl rfl) (ltn rfl) ?_
              refine HO.v (V.assign rfl) (ltn rfl) ?_
              refine HO.nil ?_
              refine HQ.keep (.cons (t := 1) rfl (.cons (t := 3) rfl (.cons (t := 8) rfl (.cons (t := 9) rfl (.cons (t := 10) rfl (.cons (t := 108) rfl (.nil))))))) ?_
              refine HQ.next ?_
              refine H.condB rfl (fun h108 => ?_) (fun h108 => ?_)
              · skip
                try simp only [decide_eq_true_eq, decide_eq_false_iff_not, Bool.not_eq_true', Bool.not_eq_false'] at h108
                refine H.skip ?_
                refine HQ.block_normal ?_
                refine HQ.block_normal ?_
                refine HQ.next ?_
                refine H.seq ?_
                refine H.region ?_
                refine HO.v (V.assign rfl) (ltn rfl) ?_
                refine HO.v (V.assign rfl) (ltn rfl) ?_
                refine HO.v (V.assign rfl) (ltn rfl) ?_
                refine HO.nil ?_
                refine HQ.next ?_
                refine H.ret ?_
                refine HQ.end_ rfl rfl rfl rfl (.inl rfl) _ (fun a w s => res3 Tryd.results55 s rfl rfl rfl) ?_
                exact ⟨_, _, .nil, by unfold together; first | (simp_all; done) | ((repeat' split) <;> simp_all <;> (intros; omega)), rfl⟩
              · skip
                try simp only [decide_eq_true_eq, decide_eq_false_iff_not, Bool.not_eq_true', Bool.not_eq_false'] at h108
                refine H.seq ?_
                refine H.region ?_
                refine HO.v (V.move rfl) (ltn rfl) ?_
                refine HO.v (V.move rfl) (ltn rfl) ?_
                refine HO.v (V.eqlI rfl rfl) (ltn rfl) ?_
                refine HO.v (V.assign rfl) (ltn rfl) ?_
                refine HO.nil ?_
                refine HQ.keep (.cons (t := 1) rfl (.cons (t := 3) rfl (.cons (t := 8) rfl (.cons (t := 9) rfl (.cons (t := 10) rfl (.cons (t := 111) rfl (.nil))))))) ?_
                refine HQ.next ?_
                refine H.condB rfl (fun h111 => ?_) (fun h111 => ?_)
                · skip
                  try simp only [decide_eq_true_eq, decide_eq_false_iff_not, Bool.not_eq_true', Bool.not_eq_false'] at h111
                  refine H.seq ?_
                  refine H.region ?_
                  refine HO.v (V.assign rfl) (ltn rfl) ?_
                  refine HO.v (V.assign rfl) (ltn rfl) ?_
                  refine HO.v (V.assign rfl) (ltn rfl) ?_
                  refine HO.nil ?_
                  refine HQ.next ?_
                  refine H.ret ?_
                  refine HQ.block_ret ?_
                  refine HQ.block_ret ?_
                  refine HQ.then_ret ?_
                  refine HQ.end_ rfl rfl rfl rfl (.inl rfl) _ (fun a w s => res3 Tryd.results55 s rfl rfl rfl) ?_
                  exact ⟨_, _, .nil, by unfold together; first | (simp_all; done) | ((repeat' split) <;> simp_all <;> (intros; omega)), rfl⟩
                · skip
                  try simp only [decide_eq_true_eq, decide_eq_false_iff_not, Bool.not_eq_true', Bool.not_eq_false'] at h111
                  refine H.seq ?_
                  refine H.region ?_
                  refine HO.v (V.move rfl) (ltn rfl) ?_
                  refine HO.v (V.move rfl) (ltn rfl) ?_
                  refine HO.v (V.gtr rfl rfl) (ltn rfl) ?_
                  refine HO.v (V.assign rfl) (ltn rfl) ?_
                  refine HO.nil ?_
                  refine HQ.keep (.cons (t := 1) rfl (.cons (t := 3) rfl (.cons (t := 8) rfl (.cons (t := 9) rfl (.cons (t := 10) rfl (.cons (t := 115) rfl (.nil))))))) ?_
                  refine HQ.next ?_
                  refine H.condB rfl (fun h115 => ?_) (fun h115 => ?_)
                  · skip
                    try simp only [decide_eq_true_eq, decide_eq_false_iff_not, Bool.not_eq_true', Bool.not_eq_false'] at h115
                    refine H.seq ?_
                    refine H.region ?_
                    refine HO.v (V.move rfl) (ltn rfl) ?_
                    refine HO.v (V.move rfl) (ltn rfl) ?_
                    refine HO.v (V.sub rfl rfl (by omega)) (ltn rfl) ?_
                    refine HO.v (V.assign rfl) (ltn rfl) ?_
                    refine HO.v (V.assign rfl) (ltn rfl) ?_
                    refine HO.v (V.assign rfl) (ltn rfl) ?_
                    refine HO.nil ?_
                    refine HQ.keep (.cons (t := 8) rfl (.cons (t := 9) rfl (.cons (t := 10) rfl (.nil)))) ?_
                    refine HQ.next ?_
                    refine H.ret ?_
                    refine HQ.block_ret ?_
                    refine HQ.block_ret ?_
                    refine HQ.then_ret ?_
                    refine HQ.end_ rfl rfl rfl rfl (.inl rfl) _ (fun a w s => res3 Tryd.results55 s rfl rfl rfl) ?_
                    exact ⟨_, _, .nil, by unfold together; first | (simp_all; done) | ((repeat' split) <;> simp_all <;> (intros; omega)), rfl⟩
                  · skip
                    try simp only [decide_eq_true_eq, decide_eq_false_iff_not, Bool.not_eq_true', Bool.not_eq_false'] at h115
                    refine H.seq ?_
                    refine H.region ?_
                    refine HO.v (V.move rfl) (ltn rfl) ?_
                    refine HO.v (V.move rfl) (ltn rfl) ?_
                    refine HO.v (V.sub rfl rfl (by omega)) (ltn rfl) ?_
                    refine HO.v (V.assign rfl) (ltn rfl) ?_
                    refine HO.v (V.assign rfl) (ltn rfl) ?_
                    refine HO.v (V.assign rfl) (ltn rfl) ?_
                    refine HO.nil ?_
                    refine HQ.keep (.cons (t := 8) rfl (.cons (t := 9) rfl (.cons (t := 10) rfl (.nil)))) ?_
                    refine HQ.next ?_
                    refine H.ret ?_
                    refine HQ.block_ret ?_
                    refine HQ.block_ret ?_
                    refine HQ.then_ret ?_
                    refine HQ.end_ rfl rfl rfl rfl (.inl rfl) _ (fun a w s => res3 Tryd.results55 s rfl rfl rfl) ?_
                    exact ⟨_, _, .nil, by unfold together; first | (simp_all; done) | ((repeat' split) <;> simp_all <;> (intros; omega)), rfl⟩
          · skip
            try simp only [decide_eq_true_eq, decide_eq_false_iff_not, Bool.not_eq_true', Bool.not_eq_false'] at h91
            refine H.seq ?_
            refine H.region ?_
            refine HO.v (V.eqlI rfl rfl) (ltn rfl) ?_
            refine HO.v (V.assign rfl) (ltn rfl) ?_
            refine HO.nil ?_
            refine HQ.keep (.cons (t := 1) rfl (.cons (t := 2) rfl (.cons (t := 3) rfl (.cons (t := 8) rfl (.cons (t := 9) rfl (.cons (t := 10) rfl (.cons (t := 122) rfl (.nil)))))))) ?_
            refine HQ.next ?_
            refine H.condB rfl (fun h122 => ?_) (fun h122 => ?_)
            · skip
              try simp only [decide_eq_true_eq, decide_eq_false_iff_not, Bool.not_eq_true', Bool.not_eq_false'] at h122
              refine H.seq ?_
              refine H.region ?_
              refine HO.v (V.move rfl) (ltn rfl) ?_
              refine HO.v (V.eqlI rfl rfl) (ltn rfl) ?_
              refine HO.v (V.move rfl) (ltn rfl) ?_
              refine HO.part (t := 126) rfl (fun g126 => ?_) (fun g126 => ?_)
              · skip
                try simp only [decide_eq_true_eq, decide_eq_false_iff_not, Bool.not_eq_true', Bool.not_eq_false'] at g126
                refine HO.gdo rfl rfl rfl rfl ?_
                refine HO.v (V.move rfl) (ltn rfl) ?_
                refine HO.gdo rfl rfl rfl rfl ?_
                refine HO.v (V.move rfl) (ltn rfl) ?_
                refine HO.gdo rfl rfl rfl rfl ?_
                refine HO.v (V.add rfl rfl (by omega)) (ltn rfl) ?_
                refine HO.gdo rfl rfl rfl rfl ?_
                refine HO.v (V.leq rfl rfl) (ltn rfl) ?_
                refine HO.v (V.pickT rfl rfl) (ltn rfl) ?_
                refine HO.nil ?_
                refine HQ.keep (.cons (t := 1) rfl (.cons (t := 3) rfl (.cons (t := 8) rfl (.cons (t := 9) rfl (.cons (t := 10) rfl (.cons (t := 131) rfl (.nil))))))) ?_
                refine HQ.next ?_
                refine H.condB rfl (fun h131 => ?_) (fun h131 => ?_)
                · skip
                  try simp only [decide_eq_true_eq, decide_eq_false_iff_not, Bool.not_eq_true', Bool.not_eq_false'] at h131
                  refine H.seq ?_
                  refine H.region ?_
                  refine HO.v (V.move rfl) (ltn rfl) ?_
                  refine HO.v (V.move rfl) (ltn rfl) ?_
                  refine HO.v (V.add rfl rfl (by omega)) (ltn rfl) ?_
                  refine HO.v (V.assign rfl) (ltn rfl) ?_
                  refine HO.v (V.assign rfl) (ltn rfl) ?_
                  refine HO.v (V.assign rfl) (ltn rfl) ?_
                  refine HO.nil ?_
                  refine HQ.keep (.cons (t := 8) rfl (.cons (t := 9) rfl (.cons (t := 10) rfl (.nil)))) ?_
                  refine HQ.next ?_
                  refine H.ret ?_
                  refine HQ.block_ret ?_
                  refine HQ.then_ret ?_
                  refine HQ.end_ rfl rfl rfl rfl (.inl rfl) _ (fun a w s => res3 Tryd.results55 s rfl rfl rfl) ?_
                  exact ⟨_, _, .nil, by unfold together; first | (simp_all; done) | ((repeat' split) <;> simp_all <;> (intros; omega)), rfl⟩
                · skip
                  try simp only [decide_eq_true_eq, decide_eq_false_iff_not, Bool.not_eq_true', Bool.not_eq_false'] at h131
                  refine H.skip ?_
                  refine HQ.block_normal ?_
                  refine HQ.next ?_
                  refine H.seq ?_
                  refine H.region ?_
                  refine HO.v (V.assign rfl) (ltn rfl) ?_
                  refine HO.v (V.assign rfl) (ltn rfl) ?_
                  refine HO.v (V.assign rfl) (ltn rfl) ?_
                  refine HO.nil ?_
                  refine HQ.next ?_
                  refine H.ret ?_
                  refine HQ.end_ rfl rfl rfl rfl (.inl rfl) _ (fun a w s => res3 Tryd.results55 s rfl rfl rfl) ?_
                  exact ⟨_, _, .nil, by unfold together; first | (simp_all; done) | ((repeat' split) <;> simp_all <;> (intros; omega)), rfl⟩
              · skip
                try simp only [decide_eq_true_eq, decide_eq_false_iff_not, Bool.not_eq_true', Bool.not_eq_false'] at g126
                refine HO.gskip rfl rfl rfl rfl (ltn rfl) ?_
                refine HO.gskip rfl rfl rfl rfl (ltn rfl) ?_
                refine HO.gskip rfl rfl rfl rfl (ltn rfl) ?_
                refine HO.gskip rfl rfl rfl rfl (ltn rfl) ?_
                refine HO.v (V.pickF rfl rfl) (ltn rfl) ?_
                refine HO.nil ?_
                refine HQ.keep (.cons (t := 1) rfl (.cons (t := 3) rfl (.cons (t := 8) rfl (.cons (t := 9) rfl (.cons (t := 10) rfl (.cons (t := 131) rfl (.nil))))))) ?_
                refine HQ.next ?_
                refine H.condF rfl rfl ?_
                refine H.skip ?_
                refine HQ.block_normal ?_
                refine HQ.next ?_
                refine H.seq ?_
                refine H.region ?_
                refine HO.v (V.assign rfl) (ltn rfl) ?_
                refine HO.v (V.assign rfl) (ltn rfl) ?_
                refine HO.v (V.assign rfl) (ltn rfl) ?_
                refine HO.nil ?_
                refine HQ.next ?_
                refine H.ret ?_
                refine HQ.end_ rfl rfl rfl rfl (.inl rfl) _ (fun a w s => res3 Tryd.results55 s rfl rfl rfl) ?_
                exact ⟨_, _, .nil, by unfold together; first | (simp_all; done) | ((repeat' split) <;> simp_all <;> (intros; omega)), rfl⟩
            · skip
              try simp only [decide_eq_true_eq, decide_eq_false_iff_not, Bool.not_eq_true', Bool.not_eq_false'] at h122
              refine H.skip ?_
              refine HQ.block_normal ?_
              refine HQ.keep (.cons (t := 8) rfl (.cons (t := 9) rfl (.cons (t := 10) rfl (.nil)))) ?_
              refine HQ.next ?_
              refine H.seq ?_
              refine H.region ?_
              refine HO.v (V.assign rfl) (ltn rfl) ?_
              refine HO.v (V.assign rfl) (ltn rfl) ?_
              refine HO.v (V.assign rfl) (ltn rfl) ?_
              refine HO.nil ?_
              refine HQ.next ?_
              refine H.ret ?_
              refine HQ.end_ rfl rfl rfl rfl (.inl rfl) _ (fun a w s => res3 Tryd.results55 s rfl rfl rfl) ?_
              exact ⟨_, _, .nil, by unfold together; first | (simp_all; done) | ((repeat' split) <;> simp_all <;> (intros; omega)), rfl⟩
theorem tz64_g (x y z i r : Int) (hx : x ≠ 0) (h1 : IntKind.u64.wrap (0 - x) = y) (h2 : IntKind.u64.wrap (ibits .and .u64 x y * 285870213051353865) = z) (h3 : z.fdiv (2 ^ min (58 : Int).toNat IntKind.u64.bits) = i) (hi : 0 ≤ i ∧ i < 64) (hr : tab64[i.toNat]? = some r) (hb : 0 ≤ r ∧ r ≤ 255) :
    Tri Tryd.prog 76 #[.int .u64 x] [tabCh] [] (fun v L' => v = .int .i64 r ∧ L' = []) := by
  refine Tri.of' 14 [.int .u64 x] [(0, .int .u64 x)] Tryd.func76 Tryd.ntmps76 rfl rfl rfl ?_
  intro w0
  refine H.seq ?_
  refine H.region ?_
  refine HO.v (V.assign rfl) (ltn rfl) ?_
  refine HO.nil ?_
  refine HQ.next ?_
  refine H.seq ?_
  refine H.seq ?_
  refine H.region ?_
  refine HO.v (V.move rfl) (ltn rfl) ?_
  refine HO.v (V.eqlI rfl rfl) (ltn rfl) ?_
  refine HO.nil ?_
  refine HQ.next ?_
  refine H.condF rfl (by simpa using hx) ?_
  refine H.skip ?_
  refine HQ.next ?_
  refine H.seq ?_
  refine H.region ?_
  refine HO.v (V.move rfl) (ltn rfl) ?_
  refine HO.v (V.move rfl) (ltn rfl) ?_
  refine HO.v (V.negW rfl) (ltn rfl) ?_
  rw [h1]
  refine HO.v (V.bitsI rfl .and rfl (by decide)) (ltn rfl) ?_
  refine HO.v (V.mulW rfl rfl) (ltn rfl) ?_
  rw [h2]
  refine HO.v (V.shr rfl rfl (by omega)) (ltn rfl) ?_
  rw [h3]
  refine HO.v (V.indexAddrA (N := (encI .u8)) Tryd.underlying125 sz5 rfl rfl (by omega) (by omega)) (ltn rfl) ?_
  refine HO.v (V.loadE (N := (encI .u8)) sc5 rfl (by exact .mk (Has.ro (.head _)) (hr) rfl)) (ltn rfl) ?_
  refine HO.v (V.convI64 Tryd.underlying5 Tryd.underlying3 rfl (by omega)) (ltn rfl) ?_
  refine HO.v (V.assign rfl) (ltn rfl) ?_
  refine HO.nil ?_
  refine HQ.keep (.cons (t := 2) rfl (.nil)) ?_
  refine HQ.next ?_
  refine H.ret ?_
  refine HQ.end_ rfl rfl rfl rfl (.inl rfl) _ (fun a w s => res1 Tryd.results76 s rfl) ?_
  exact ⟨_, _, .nil, rfl, rfl⟩

theorem tz64_w (c : Int) (h : pow2 c ≠ 0) : Tri Tryd.prog 76 #[.int .u64 c] [tabCh] [] (fun v L' => v = .int .i64 (pow2 c) ∧ L' = []) := by
  have k : ∀ c r : Int, c ≠ 0 → (0 ≤ ((IntKind.u64.wrap (ibits .and .u64 c (IntKind.u64.wrap (0 - c)) * 285870213051353865)).fdiv (2 ^ min (58 : Int).toNat IntKind.u64.bits)) ∧ ((IntKind.u64.wrap (ibits .and .u64 c (IntKind.u64.wrap (0 - c)) * 285870213051353865)).fdiv (2 ^ min (58 : Int).toNat IntKind.u64.bits)) < 64) →
      tab64[((IntKind.u64.wrap (ibits .and .u64 c (IntKind.u64.wrap (0 - c)) * 285870213051353865)).fdiv (2 ^ min (58 : Int).toNat IntKind.u64.bits)).toNat]? = some r → (0 ≤ r ∧ r ≤ 255) → Tri Tryd.prog 76 #[.int .u64 c] [tabCh] [] (fun v L' => v = .int .i64 r ∧ L' = []) :=
    fun c r h0 h1 h2 h3 => tz64_g c _ _ _ r h0 rfl rfl rfl h1 h2 h3
  rcases pow2_cases h with ⟨rfl, e⟩ | ⟨rfl, e⟩ | ⟨rfl, e⟩ | ⟨rfl, e⟩ | ⟨rfl, e⟩ | ⟨rfl, e⟩ | ⟨rfl, e⟩ | ⟨rfl, e⟩ | ⟨rfl, e⟩ <;> rw [e] <;> exact k _ _ (by decide) (by decide +kernel) (by decide +kernel) (by decide)

theorem tz_w (c : Int) (h : pow2 c ≠ 0) :
    Tri Tryd.prog 69 #[.int .u64 c] [tabCh] [] (fun v L' => v = .int .i64 (pow2 c) ∧ L' = []) := by
  refine Tri.of' 8 [.int .u64 c] [(0, .int .u64 c)] Tryd.func69 Tryd.ntmps69 rfl rfl rfl ?_
  intro w0
  refine H.seq ?_
  refine H.region ?_
  refine HO.v (V.assign rfl) (ltn rfl) ?_
  refine HO.nil ?_
  refine HQ.next ?_
  refine H.seq ?_
  refine H.condF rfl rfl ?_
  refine H.skip ?_
  refine HQ.next ?_
  refine H.seq ?_
  refine H.region ?_
  refine HO.v (V.move rfl) (ltn rfl) ?_
  refine HO.call ca76 (.cons rfl (.nil)) (tz64_w _ h) (by exact Rems.nil) (by (refine Reads.ro (.head _) ?_); exact Reads.nil) (ltn rfl) ?_
  rintro v7 L7 ⟨rfl, rfl⟩
  dsimp only [List.nil_append, List.cons_append]
  refine HO.v (V.assign rfl) (ltn rfl) ?_
  refine HO.nil ?_
  refine HQ.next ?_
  refine H.ret ?_
  refine HQ.end_ rfl rfl rfl rfl (.inl rfl) _ (fun a w s => res1 Tryd.results69 s rfl) ?_
  exact ⟨_, _, .nil, rfl, rfl⟩
theorem power_w (c : Int) (hc : -512 ≤ c ∧ c ≤ 512) :
    Tri Tryd.prog 53 #[.int .i64 c] [tabCh] [] (fun v L' => v = .tuple #[.int .i64 (pow2 c), .bool (!decide (pow2 c = 0))] ∧ L' = []) := by
  refine Tri.of' 16 [.int .i64 c] [(0, .int .i64 c)] Tryd.func53 Tryd.ntmps53 rfl rfl rfl ?_
  intro w0
  refine H.seq ?_
  refine H.region ?_
  refine HO.v (V.assign rfl) (ltn rfl) ?_
  refine HO.v (V.assign rfl) (ltn rfl) ?_
  refine HO.nil ?_
  refine HQ.next ?_
  refine H.seq ?_
  refine H.seq ?_
  refine H.region ?_
  refine HO.v (V.move rfl) (ltn rfl) ?_
  refine HO.v (V.lss rfl rfl) (ltn rfl) ?_
  refine HO.v (V.move rfl) (ltn rfl) ?_
  refine HO.part (t := 6) rfl (fun g6 => ?_) (fun g6 => ?_)
  · skip
    try simp only [decide_eq_true_eq, decide_eq_false_iff_not, Bool.not_eq_true', Bool.not_eq_false'] at g6
    refine HO.gskip rfl rfl rfl rfl (ltn rfl) ?_
    refine HO.gskip rfl rfl rfl rfl (ltn rfl) ?_
    refine HO.gskip rfl rfl rfl rfl (ltn rfl) ?_
    refine HO.gskip rfl rfl rfl rfl (ltn rfl) ?_
    refine HO.gskip rfl rfl rfl rfl (ltn rfl) ?_
    refine HO.v (V.pickT rfl rfl) (ltn rfl) ?_
    refine HO.nil ?_
    refine HQ.keep (.cons (t := 0) rfl (.cons (t := 2) rfl (.cons (t := 3) rfl (.cons (t := 12) rfl (.nil))))) ?_
    refine HQ.next ?_
    refine H.condT rfl rfl ?_
    refine H.seq ?_
    refine H.region ?_
    refine HO.v (V.assign rfl) (ltn rfl) ?_
    refine HO.v (V.assign rfl) (ltn rfl) ?_
    refine HO.nil ?_
    refine HQ.next ?_
    refine H.ret ?_
    refine HQ.then_ret ?_
    refine HQ.end_ rfl rfl rfl rfl (.inl rfl) _ (fun a w s => res2 Tryd.results53 s rfl rfl) ?_
    exact ⟨_, _, .nil, by rw [pow2_small g6]; rfl, rfl⟩
  · skip
    try simp only [decide_eq_true_eq, decide_eq_false_iff_not, Bool.not_eq_true', Bool.not_eq_false'] at g6
    refine HO.gdo rfl rfl rfl rfl ?_
    refine HO.v (V.move rfl) (ltn rfl) ?_
    refine HO.gdo rfl rfl rfl rfl ?_
    refine HO.v (V.move rfl) (ltn rfl) ?_
    refine HO.gdo rfl rfl rfl rfl ?_
    refine HO.v (V.sub rfl rfl (by omega)) (ltn rfl) ?_
    refine HO.gdo rfl rfl rfl rfl ?_
    refine HO.v (V.bitsI rfl .and rfl (by decide)) (ltn rfl) ?_
    refine HO.gdo rfl rfl rfl rfl ?_
    refine HO.v (V.neqI rfl rfl) (ltn rfl) ?_
    refine HO.v (V.pickF rfl rfl) (ltn rfl) ?_
    refine HO.nil ?_
    refine HQ.keep (.cons (t := 0) rfl (.cons (t := 2) rfl (.cons (t := 3) rfl (.cons (t := 12) rfl (.nil))))) ?_
    refine HQ.next ?_
    refine H.condB rfl (fun h12 => ?_) (fun h12 => ?_)
    · skip
      try simp only [decide_eq_true_eq, decide_eq_false_iff_not, Bool.not_eq_true', Bool.not_eq_false'] at h12
      refine H.seq ?_
      refine H.region ?_
      refine HO.v (V.assign rfl) (ltn rfl) ?_
      refine HO.v (V.assign rfl) (ltn rfl) ?_
      refine HO.nil ?_
      refine HQ.next ?_
      refine H.ret ?_
      refine HQ.then_ret ?_
      refine HQ.end_ rfl rfl rfl rfl (.inl rfl) _ (fun a w s => res2 Tryd.results53 s rfl rfl) ?_
      exact ⟨_, _, .nil, by rw [pw_no h12 (by omega) hc.2]; rfl, rfl⟩
    · skip
      try simp only [decide_eq_true_eq, decide_eq_false_iff_not, Bool.not_eq_true', Bool.not_eq_false'] at h12
      refine H.skip ?_
      refine HQ.next ?_
      refine H.seq ?_
      refine H.region ?_
      refine HO.v (V.move rfl) (ltn rfl) ?_
      have hw : IntKind.u64.wrap c = c := by simp [IntKind.wrap, IntKind.bits, IntKind.signed]; omega
      refine HO.v (V.convI Tryd.underlying3 Tryd.underlying116 rfl) (ltn rfl) ?_
      rw [hw]
      refine HO.call ca69 (.cons rfl (.nil)) (tz_w c (pw_yes h12 (by omega) hc.2)) (by exact Rems.nil) (by (refine Reads.ro (.head _) ?_); exact Reads.nil) (ltn rfl) ?_
      rintro v15 L15 ⟨rfl, rfl⟩
      dsimp only [List.nil_append, List.cons_append]
      refine HO.v (V.assign rfl) (ltn rfl) ?_
      refine HO.v (V.assign rfl) (ltn rfl) ?_
      refine HO.nil ?_
      refine HQ.keep (.cons (t := 2) rfl (.cons (t := 3) rfl (.nil))) ?_
      refine HQ.next ?_
      refine H.ret ?_
      refine HQ.end_ rfl rfl rfl rfl (.inl rfl) _ (fun a w s => res2 Tryd.results53 s rfl rfl) ?_
      exact ⟨_, _, .nil, by simp [pw_yes h12 (by omega) hc.2], rfl⟩
theorem plain_w (i : Ins) (hc : -512 ≤ i.c ∧ i.c ≤ 512) :
    Tri Tryd.prog 31 #[vIn i] [tabCh] [] (fun v L' => v = vIn (plain i) ∧ L' = []) := by
  refine Tri.of' 68 [vIn i] [(0, vIn i)] Tryd.func31 Tryd.ntmps31 rfl rfl rfl ?_
  intro w0
  refine H.seq ?_
  refine H.region ?_
  refine HO.box rfl rfl (ltn rfl) ?_
  intro b1
  refine HO.alloc ze26 rfl (ltn rfl) ?_
  intro b2
  refine HO.nil ?_
  refine HQ.next ?_
  refine H.seq ?_
  refine H.region ?_
  refine HO.v (V.fieldAddr (fs := #[]) fa26_4 rfl) (ltn rfl) ?_
  refine HO.v (V.load sc3 rfl (by exact .mk (.there .here) rfl)) (ltn rfl) ?_
  refine HO.call ca53 (.cons rfl (.nil)) (power_w _ hc) (by exact Rems.nil) (by (refine Reads.ro (.head _) ?_); exact Reads.nil) (ltn rfl) ?_
  rintro v8 L8 ⟨rfl, rfl⟩
  dsimp only [List.nil_append, List.cons_append]
  refine HO.v (V.move rfl) (ltn rfl) ?_
  refine HO.v (V.extract rfl rfl) (ltn rfl) ?_
  refine HO.v (V.extract rfl rfl) (ltn rfl) ?_
  refine HO.v (V.assign rfl) (ltn rfl) ?_
  refine HO.v (V.assign rfl) (ltn rfl) ?_
  refine HO.nil ?_
  refine HQ.keep (.cons (t := 1) rfl (.cons (t := 2) rfl (.cons (t := 3) rfl (.cons (t := 4) rfl (.nil))))) ?_
  refine HQ.next ?_
  refine H.seq ?_
  refine H.seq ?_
  refine H.region ?_
  refine HO.v (V.fieldAddr (fs := #[]) fa26_0 rfl) (ltn rfl) ?_
  refine HO.v (V.load sc3 rfl (by exact .mk (.there .here) rfl)) (ltn rfl) ?_
  refine HO.nil ?_
  refine HQ.next ?_
  refine H.block ?_
  refine H.seq ?_
  refine H.region ?_
  refine HO.v (V.eqlI rfl rfl) (ltn rfl) ?_
  refine HO.v (V.assign rfl) (ltn rfl) ?_
  refine HO.nil ?_
  refine HQ.keep (.cons (t := 1) rfl (.cons (t := 2) rfl (.cons (t := 3) rfl (.cons (t := 4) rfl (.cons (t := 12) rfl (.cons (t := 13) rfl (.nil))))))) ?_
  refine HQ.next ?_
  refine H.condB rfl (fun h13 => ?_) (fun h13 => ?_)
  · skip
    try simp only [decide_eq_true_eq, decide_eq_false_iff_not, Bool.not_eq_true', Bool.not_eq_false'] at h13
    refine H.seq ?_
    refine H.region ?_
    refine HO.v (V.fieldAddr (fs := #[]) fa26_2 rfl) (ltn rfl) ?_
    refine HO.v (V.load sc3 rfl (by exact .mk (.there .here) rfl)) (ltn rfl) ?_
    refine HO.v (V.fieldAddr (fs := #[]) fa26_3 rfl) (ltn rfl) ?_
    refine HO.v (V.load sc3 rfl (by exact .mk (.there .here) rfl)) (ltn rfl) ?_
    refine HO.v (V.eqlI rfl rfl) (ltn rfl) ?_
    refine HO.nil ?_
    refine HQ.keep (.cons (t := 1) rfl (.cons (t := 2) rfl (.cons (t := 19) rfl (.nil)))) ?_
    refine HQ.next ?_
    refine H.condB rfl (fun h19 => ?_) (fun h19 => ?_)
    · skip
      try simp only [decide_eq_true_eq, decide_eq_false_iff_not, Bool.not_eq_true', Bool.not_eq_false'] at h19
      refine H.seq ?_
      refine H.region ?_
      refine HO.v (V.fieldAddr (fs := #[]) fa26_1 rfl) (ltn rfl) ?_
      refine HO.v (V.load sc3 rfl (by exact .mk (.there .here) rfl)) (ltn rfl) ?_
      refine HO.v (V.fieldAddr (fs := #[]) fa26_2 rfl) (ltn rfl) ?_
      refine HO.v (V.load sc3 rfl (by exact .mk (.there .here) rfl)) (ltn rfl) ?_
      refine HO.call ca54 (.cons rfl (.cons rfl (.cons rfl (.cons rfl (.nil))))) (one_w _ _ _ _) (by exact Rems.nil) (by exact Reads.nil) (ltn rfl) ?_
      rintro v24 L24 ⟨rfl, rfl⟩
      dsimp only [List.nil_append, List.cons_append]
      refine HO.store sz26 rfl rfl rfl rfl rfl (by exact .mk .here (by repeat constructor)) ?_
      refine HO.nil ?_
      refine HQ.keep (.cons (t := 1) rfl (.cons (t := 2) rfl (.nil))) ?_
      refine HQ.next ?_
      refine H.ret ?_
      refine HQ.block_ret ?_
      refine HQ.then_ret ?_
      refine HQ.end_ rfl rfl rfl rfl (.inl rfl) _ (fun a w s => resR1 Tryd.results31 s (.agg ag26 rfl (by exact .mk .here (by repeat constructor)))) ?_
      refine ⟨_, _, .nil, ?_, rfl⟩
      unfold plain; first | (simp_all; done) | ((repeat' split) <;> simp_all <;> (intros; omega))
    · skip
      try simp only [decide_eq_true_eq, decide_eq_false_iff_not, Bool.not_eq_true', Bool.not_eq_false'] at h19
      refine H.skip ?_
      refine HQ.block_normal ?_
      refine HQ.next ?_
      refine H.seq ?_
      refine H.region ?_
      refine HO.v (V.loadA ag26 rfl (by exact .mk (.there .here) (by repeat constructor))) (ltn rfl) ?_
      refine HO.store sz26 rfl rfl rfl rfl rfl (by exact .mk .here (by repeat constructor)) ?_
      refine HO.nil ?_
      refine HQ.next ?_
      refine H.ret ?_
      refine HQ.end_ rfl rfl rfl rfl (.inl rfl) _ (fun a w s => resR1 Tryd.results31 s (.agg ag26 rfl (by exact .mk .here (by repeat constructor)))) ?_
      refine ⟨_, _, .nil, ?_, rfl⟩
      unfold plain; first | (simp_all; done) | ((repeat' split) <;> simp_all <;> (intros; omega))
  · skip
    try simp only [decide_eq_true_eq, decide_eq_false_iff_not, Bool.not_eq_true', Bool.not_eq_false'] at h13
    refine H.seq ?_
    refine H.seq ?_
    refine H.region ?_
    refine HO.v (V.eqlI rfl rfl) (ltn rfl) ?_
    refine HO.v (V.assign rfl) (ltn rfl) ?_
    refine HO.nil ?_
    refine HQ.keep (.cons (t := 1) rfl (.cons (t := 2) rfl (.cons (t := 3) rfl (.cons (t := 4) rfl (.cons (t := 12) rfl (.cons (t := 25) rfl (.nil))))))) ?_
    refine HQ.next ?_
    refine H.condB rfl (fun h25 => ?_) (fun h25 => ?_)
    · skip
      try simp only [decide_eq_true_eq, decide_eq_false_iff_not, Bool.not_eq_true', Bool.not_eq_false'] at h25
      refine H.skip ?_
      refine HQ.next ?_
      refine H.condB rfl (fun h25 => ?_) (fun h25 => ?_)
      · skip
        try simp only [decide_eq_true_eq, decide_eq_false_iff_not, Bool.not_eq_true', Bool.not_eq_false'] at h25
        refine H.block ?_
        refine H.seq ?_
        refine H.region ?_
        refine HO.v (V.fieldAddr (fs := #[]) fa26_4 rfl) (ltn rfl) ?_
        refine HO.v (V.load sc3 rfl (by exact .mk (.there .here) rfl)) (ltn rfl) ?_
        refine HO.v (V.eqlI rfl rfl) (ltn rfl) ?_
        refine HO.v (V.assign rfl) (ltn rfl) ?_
        refine HO.nil ?_
        refine HQ.keep (.cons (t := 1) rfl (.cons (t := 2) rfl (.cons (t := 3) rfl (.cons (t := 4) rfl (.cons (t := 28) rfl (.nil)))))) ?_
        refine HQ.next ?_
        refine H.condB rfl (fun h28 => ?_) (fun h28 => ?_)
        · skip
          try simp only [decide_eq_true_eq, decide_eq_false_iff_not, Bool.not_eq_true', Bool.not_eq_false'] at h28
          refine H.seq ?_
          refine H.region ?_
          refine HO.v (V.fieldAddr (fs := #[]) fa26_1 rfl) (ltn rfl) ?_
          refine HO.v (V.load sc3 rfl (by exact .mk (.there .here) rfl)) (ltn rfl) ?_
          refine HO.v (V.fieldAddr (fs := #[]) fa26_2 rfl) (ltn rfl) ?_
          refine HO.v (V.load sc3 rfl (by exact .mk (.there .here) rfl)) (ltn rfl) ?_
          refine HO.call ca54 (.cons rfl (.cons rfl (.cons rfl (.cons rfl (.nil))))) (one_w _ _ _ _) (by exact Rems.nil) (by exact Reads.nil) (ltn rfl) ?_
          rintro v36 L36 ⟨rfl, rfl⟩
          dsimp only [List.nil_append, List.cons_append]
          refine HO.store sz26 rfl rfl rfl rfl rfl (by exact .mk .here (by repeat constructor)) ?_
          refine HO.nil ?_
          refine HQ.keep (.cons (t := 1) rfl (.cons (t := 2) rfl (.nil))) ?_
          refine HQ.next ?_
          refine H.ret ?_
          refine HQ.block_ret ?_
          refine HQ.block_ret ?_
          refine HQ.then_ret ?_
          refine HQ.end_ rfl rfl rfl rfl (.inl rfl) _ (fun a w s => resR1 Tryd.results31 s (.agg ag26 rfl (by exact .mk .here (by repeat constructor)))) ?_
          refine ⟨_, _, .nil, ?_, rfl⟩
          unfold plain; first | (simp_all; done) | ((repeat' split) <;> simp_all <;> (intros; omega))
        · skip
          try simp only [decide_eq_true_eq, decide_eq_false_iff_not, Bool.not_eq_true', Bool.not_eq_false'] at h28
          refine H.seq ?_
          refine H.region ?_
          refine HO.v (V.fieldAddr (fs := #[]) fa26_4 rfl) (ltn rfl) ?_
          refine HO.v (V.load sc3 rfl (by exact .mk (.there .here) rfl)) (ltn rfl) ?_
          refine HO.v (V.eqlI rfl rfl) (ltn rfl) ?_
          refine HO.v (V.assign rfl) (ltn rfl) ?_
          refine HO.nil ?_
          refine HQ.keep (.cons (t := 1) rfl (.cons (t := 2) rfl (.cons (t := 3) rfl (.cons (t := 4) rfl (.cons (t := 37) rfl (.nil)))))) ?_
          refine HQ.next ?_
          refine H.condB rfl (fun h37 => ?_) (fun h37 => ?_)
          · skip
            try simp only [decide_eq_true_eq, decide_eq_false_iff_not, Bool.not_eq_true', Bool.not_eq_false'] at h37
            refine H.seq ?_
            refine H.region ?_
            refine HO.v (V.fieldAddr (fs := #[]) fa26_1 rfl) (ltn rfl) ?_
            refine HO.v (V.load sc3 rfl (by exact .mk (.there .here) rfl)) (ltn rfl) ?_
            refine HO.v (V.fieldAddr (fs := #[]) fa26_2 rfl) (ltn rfl) ?_
            refine HO.v (V.load sc3 rfl (by exact .mk (.there .here) rfl)) (ltn rfl) ?_
            refine HO.call ca54 (.cons rfl (.cons rfl (.cons rfl (.cons rfl (.nil))))) (one_w _ _ _ _) (by exact Rems.nil) (by exact Reads.nil) (ltn rfl) ?_
            rintro v45 L45 ⟨rfl, rfl⟩
            dsimp only [List.nil_append, List.cons_append]
            refine HO.store sz26 rfl rfl rfl rfl rfl (by exact .mk .here (by repeat constructor)) ?_
            refine HO.nil ?_
            refine HQ.keep (.cons (t := 1) rfl (.cons (t := 2) rfl (.nil))) ?_
            refine HQ.next ?_
            refine H.ret ?_
            refine HQ.block_ret ?_
            refine HQ.block_ret ?_
            refine HQ.then_ret ?_
            refine HQ.end_ rfl rfl rfl rfl (.inl rfl) _ (fun a w s => resR1 Tryd.results31 s (.agg ag26 rfl (by exact .mk .here (by repeat constructor)))) ?_
            refine ⟨_, _, .nil, ?_, rfl⟩
            unfold plain; first | (simp_all; done) | ((repeat' split) <;> simp_all <;> (intros; omega))
          · skip
            try simp only [decide_eq_true_eq, decide_eq_false_iff_not, Bool.not_eq_true', Bool.not_eq_false'] at h37
            refine H.seq ?_
            refine H.region ?_
            refine HO.v (V.move rfl) (ltn rfl) ?_
            refine HO.v (V.move rfl) (ltn rfl) ?_
            refine HO.part (t := 48) rfl (fun g48 => ?_) (fun g48 => ?_)
            · skip
              try simp only [decide_eq_true_eq, decide_eq_false_iff_not, Bool.not_eq_true', Bool.not_eq_false'] at g48
              refine HO.gdo rfl rfl rfl rfl ?_
              refine HO.v (V.fieldAddr (fs := #[]) fa26_0 rfl) (ltn rfl) ?_
              refine HO.gdo rfl rfl rfl rfl ?_
              refine HO.v (V.load sc3 rfl (by exact .mk (.there .here) rfl)) (ltn rfl) ?_
              refine HO.gdo rfl rfl rfl rfl ?_
              refine HO.v (V.eqlI rfl rfl) (ltn rfl) ?_
              refine HO.v (V.pickT rfl rfl) (ltn rfl) ?_
              refine HO.v (V.assign rfl) (ltn rfl) ?_
              refine HO.nil ?_
              refine HQ.keep (.cons (t := 1) rfl (.cons (t := 2) rfl (.cons (t := 3) rfl (.cons (t := 4) rfl (.cons (t := 46) rfl (.nil)))))) ?_
              refine HQ.next ?_
              refine H.condB rfl (fun h46 => ?_) (fun h46 => ?_)
              · skip
                try simp only [decide_eq_true_eq, decide_eq_false_iff_not, Bool.not_eq_true', Bool.not_eq_false'] at h46
                refine H.seq ?_
                refine H.region ?_
                refine HO.v (V.fieldAddr (fs := #[]) fa26_1 rfl) (ltn rfl) ?_
                refine HO.v (V.load sc3 rfl (by exact .mk (.there .here) rfl)) (ltn rfl) ?_
                refine HO.v (V.fieldAddr (fs := #[]) fa26_2 rfl) (ltn rfl) ?_
                refine HO.v (V.load sc3 rfl (by exact .mk (.there .here) rfl)) (ltn rfl) ?_
                refine HO.v (V.move rfl) (ltn rfl) ?_
                refine HO.call ca54 (.cons rfl (.cons rfl (.cons rfl (.cons rfl (.nil))))) (one_w _ _ _ _) (by exact Rems.nil) (by exact Reads.nil) (ltn rfl) ?_
                rintro v58 L58 ⟨rfl, rfl⟩
                dsimp only [List.nil_append, List.cons_append]
                refine HO.store sz26 rfl rfl rfl rfl rfl (by exact .mk .here (by repeat constructor)) ?_
                refine HO.nil ?_
                refine HQ.keep (.cons (t := 1) rfl (.cons (t := 2) rfl (.nil))) ?_
                refine HQ.next ?_
                refine H.ret ?_
                refine HQ.block_ret ?_
                refine HQ.block_ret ?_
                refine HQ.then_ret ?_
                refine HQ.end_ rfl rfl rfl rfl (.inl rfl) _ (fun a w s => resR1 Tryd.results31 s (.agg ag26 rfl (by exact .mk .here (by repeat constructor)))) ?_
                refine ⟨_, _, .nil, ?_, rfl⟩
                unfold plain; first | (simp_all; done) | ((repeat' split) <;> simp_all <;> (intros; omega))
              · skip
                try simp only [decide_eq_true_eq, decide_eq_false_iff_not, Bool.not_eq_true', Bool.not_eq_false'] at h46
                refine H.seq ?_
                refine H.region ?_
                refine HO.v (V.move rfl) (ltn rfl) ?_
                refine HO.v (V.assign rfl) (ltn rfl) ?_
                refine HO.nil ?_
                refine HQ.keep (.cons (t := 1) rfl (.cons (t := 2) rfl (.cons (t := 3) rfl (.cons (t := 59) rfl (.nil))))) ?_
                refine HQ.next ?_
                refine H.condB rfl (fun h59 => ?_) (fun h59 => ?_)
                · skip
                  try simp only [decide_eq_true_eq, decide_eq_false_iff_not, Bool.not_eq_true', Bool.not_eq_false'] at h59
                  refine H.seq ?_
                  refine H.region ?_
                  refine HO.v (V.fieldAddr (fs := #[]) fa26_1 rfl) (ltn rfl) ?_
                  refine HO.v (V.load sc3 rfl (by exact .mk (.there .here) rfl)) (ltn rfl) ?_
                  refine HO.v (V.fieldAddr (fs := #[]) fa26_2 rfl) (ltn rfl) ?_
                  refine HO.v (V.load sc3 rfl (by exact .mk (.there .here) rfl)) (ltn rfl) ?_
                  refine HO.v (V.move rfl) (ltn rfl) ?_
                  refine HO.call ca54 (.cons rfl (.cons rfl (.cons rfl (.cons rfl (.nil))))) (one_w _ _ _ _) (by exact Rems.nil) (by exact Reads.nil) (ltn rfl) ?_
                  rintro v66 L66 ⟨rfl, rfl⟩
                  dsimp only [List.nil_append, List.cons_append]
                  refine HO.store sz26 rfl rfl rfl rfl rfl (by exact .mk .here (by repeat constructor)) ?_
                  refine HO.nil ?_
                  refine HQ.keep (.cons (t := 1) rfl (.cons (t := 2) rfl (.nil))) ?_
                  refine HQ.next ?_
                  refine H.ret ?_
                  refine HQ.block_ret ?_
                  refine HQ.block_ret ?_
                  refine HQ.then_ret ?_
                  refine HQ.end_ rfl rfl rfl rfl (.inl rfl) _ (fun a w s => resR1 Tryd.results31 s (.agg ag26 rfl (by exact .mk .here (by repeat constructor)))) ?_
                  refine ⟨_, _, .nil, ?_, rfl⟩
                  unfold plain; first | (simp_all; done) | ((repeat' split) <;> simp_all <;> (intros; omega))
                · skip
                  try simp only [decide_eq_true_eq, decide_eq_false_iff_not, Bool.not_eq_true', Bool.not_eq_false'] at h59
                  refine H.skip ?_
                  refine HQ.block_normal ?_
                  refine HQ.block_normal ?_
                  refine HQ.next ?_
                  refine H.seq ?_
                  refine H.region ?_
                  refine HO.v (V.loadA ag26 rfl (by exact .mk (.there .here) (by repeat constructor))) (ltn rfl) ?_
                  refine HO.store sz26 rfl rfl rfl rfl rfl (by exact .mk .here (by repeat constructor)) ?_
                  refine HO.nil ?_
                  refine HQ.next ?_
                  refine H.ret ?_
                  refine HQ.end_ rfl rfl rfl rfl (.inl rfl) _ (fun a w s => resR1 Tryd.results31 s (.agg ag26 rfl (by exact .mk .here (by repeat constructor)))) ?_
                  refine ⟨_, _, .nil, ?_, rfl⟩
                  unfold plain; first | (simp_all; done) | ((repeat' split) <;> simp_all <;> (intros; omega))
            · skip
              try simp only [decide_eq_true_eq, decide_eq_false_iff_not, Bool.not_eq_true', Bool.not_eq_false'] at g48
              refine HO.gskip rfl rfl rfl rfl (ltn rfl) ?_
              refine HO.gskip rfl rfl rfl rfl (ltn rfl) ?_
              refine HO.gskip rfl rfl rfl rfl (ltn rfl) ?_
              refine HO.v (V.pickF rfl rfl) (ltn rfl) ?_
              refine HO.v (V.assign rfl) (ltn rfl) ?_
              refine HO.nil ?_
              refine HQ.keep (.cons (t := 1) rfl (.cons (t := 2) rfl (.cons (t := 3) rfl (.cons (t := 4) rfl (.cons (t := 46) rfl (.nil)))))) ?_
              refine HQ.next ?_
              refine H.condF rfl rfl ?_
              refine H.seq ?_
              refine H.region ?_
              refine HO.v (V.move rfl) (ltn rfl) ?_
              refine HO.v (V.assign rfl) (ltn rfl) ?_
              refine HO.nil ?_
              refine HQ.keep (.cons (t := 1) rfl (.cons (t := 2) rfl (.cons (t := 3) rfl (.cons (t := 59) rfl (.nil))))) ?_
              refine HQ.next ?_
              refine H.condB rfl (fun h59 => ?_) (fun h59 => ?_)
              · skip
                try simp only [decide_eq_true_eq, decide_eq_false_iff_not, Bool.not_eq_true', Bool.not_eq_false'] at h59
                refine H.seq ?_
                refine H.region ?_
                refine HO.v (V.fieldAddr (fs := #[]) fa26_1 rfl) (ltn rfl) ?_
                refine HO.v (V.load sc3 rfl (by exact .mk (.there .here) rfl)) (ltn rfl) ?_
                refine HO.v (V.fieldAddr (fs := #[]) fa26_2 rfl) (ltn rfl) ?_
                refine HO.v (V.load sc3 rfl (by exact .mk (.there .here) rfl)) (ltn rfl) ?_
                refine HO.v (V.move rfl) (ltn rfl) ?_
                refine HO.call ca54 (.cons rfl (.cons rfl (.cons rfl (.cons rfl (.nil))))) (one_w _ _ _ _) (by exact Rems.nil) (by exact Reads.nil) (ltn rfl) ?_
                rintro v66 L66 ⟨rfl, rfl⟩
                dsimp only [List.nil_append, List.cons_append]
                refine HO.store sz26 rfl rfl rfl rfl rfl (by exact .mk .here (by repeat constructor)) ?_
                refine HO.nil ?_
                refine HQ.keep (.cons (t := 1) rfl (.cons (t := 2) rfl (.nil))) ?_
                refine HQ.next ?_
                refine H.ret ?_
                refine HQ.block_ret ?_
                refine HQ.block_ret ?_
                refine HQ.then_ret ?_
                refine HQ.end_ rfl rfl rfl rfl (.inl rfl) _ (fun a w s => resR1 Tryd.results31 s (.agg ag26 rfl (by exact .mk .here (by repeat constructor)))) ?_
                refine ⟨_, _, .nil, ?_, rfl⟩
                unfold plain; first | (simp_all; done) | ((repeat' split) <;> simp_all <;> (intros; omega))
              · skip
                try simp only [decide_eq_true_eq, decide_eq_false_iff_not, Bool.not_eq_true', Bool.not_eq_false'] at h59
                refine H.skip ?_
                refine HQ.block_normal ?_
                refine HQ.block_normal ?_
                refine HQ.next ?_
                refine H.seq ?_
                refine H.region ?_
                refine HO.v (V.loadA ag26 rfl (by exact .mk (.there .here) (by repeat constructor))) (ltn rfl) ?_
                refine HO.store sz26 rfl rfl rfl rfl rfl (by exact .mk .here (by repeat constructor)) ?_
                refine HO.nil ?_
                refine HQ.next ?_
                refine H.ret ?_
                refine HQ.end_ rfl rfl rfl rfl (.inl rfl) _ (fun a w s => resR1 Tryd.results31 s (.agg ag26 rfl (by exact .mk .here (by repeat constructor)))) ?_
                refine ⟨_, _, .nil, ?_, rfl⟩
                unfold plain; first | (simp_all; done) | ((repeat' split) <;> simp_all <;> (intros; omega))
      · skip
        try simp only [decide_eq_true_eq, decide_eq_false_iff_not, Bool.not_eq_true', Bool.not_eq_false'] at h25
        refine H.skip ?_
        refine HQ.block_normal ?_
        refine HQ.next ?_
        refine H.seq ?_
        refine H.region ?_
        refine HO.v (V.loadA ag26 rfl (by exact .mk (.there .here) (by repeat constructor))) (ltn rfl) ?_
        refine HO.store sz26 rfl rfl rfl rfl rfl (by exact .mk .here (by repeat constructor)) ?_
        refine HO.nil ?_
        refine HQ.keep (.cons (t := 2) rfl (.nil)) ?_
        refine HQ.next ?_
        refine H.ret ?_
        refine HQ.end_ rfl rfl rfl rfl (.inl rfl) _ (fun a w s => resR1 Tryd.results31 s (.agg ag26 rfl (by exact .mk .here (by repeat constructor)))) ?_
        refine ⟨_, _, .nil, ?_, rfl⟩
        unfold plain; first | (simp_all; done) | ((repeat' split) <;> simp_all <;> (intros; omega))
    · skip
      try simp only [decide_eq_true_eq, decide_eq_false_iff_not, Bool.not_eq_true', Bool.not_eq_false'] at h25
      refine H.region ?_
      refine HO.v (V.eqlI rfl rfl) (ltn rfl) ?_
      refine HO.v (V.assign rfl) (ltn rfl) ?_
      refine HO.nil ?_
      refine HQ.keep (.cons (t := 1) rfl (.cons (t := 2) rfl (.cons (t := 3) rfl (.cons (t := 4) rfl (.cons (t := 25) rfl (.nil)))))) ?_
      refine HQ.next ?_
      refine H.condB rfl (fun h25 => ?_) (fun h25 => ?_)
      · skip
        try simp only [decide_eq_true_eq, decide_eq_false_iff_not, Bool.not_eq_true', Bool.not_eq_false'] at h25
        refine H.block ?_
        refine H.seq ?_
        refine H.region ?_
        refine HO.v (V.fieldAddr (fs := #[]) fa26_4 rfl) (ltn rfl) ?_
        refine HO.v (V.load sc3 rfl (by exact .mk (.there .here) rfl)) (ltn rfl) ?_
        refine HO.v (V.eqlI rfl rfl) (ltn rfl) ?_
        refine HO.v (V.assign rfl) (ltn rfl) ?_
        refine HO.nil ?_
        refine HQ.keep (.cons (t := 1) rfl (.cons (t := 2) rfl (.cons (t := 3) rfl (.cons (t := 4) rfl (.cons (t := 28) rfl (.nil)))))) ?_
        refine HQ.next ?_
        refine H.condB rfl (fun h28 => ?_) (fun h28 => ?_)
        · skip
          try simp only [decide_eq_true_eq, decide_eq_false_iff_not, Bool.not_eq_true', Bool.not_eq_false'] at h28
          refine H.seq ?_
          refine H.region ?_
          refine HO.v (V.fieldAddr (fs := #[]) fa26_1 rfl) (ltn rfl) ?_
          refine HO.v (V.load sc3 rfl (by exact .mk (.there .here) rfl)) (ltn rfl) ?_
          refine HO.v (V.fieldAddr (fs := #[]) fa26_2 rfl) (ltn rfl) ?_
          refine HO.v (V.load sc3 rfl (by exact .mk (.there .here) rfl)) (ltn rfl) ?_
          refine HO.call ca54 (.cons rfl (.cons rfl (.cons rfl (.cons rfl (.nil))))) (one_w _ _ _ _) (by exact Rems.nil) (by exact Reads.nil) (ltn rfl) ?_
          rintro v36 L36 ⟨rfl, rfl⟩
          dsimp only [List.nil_append, List.cons_append]
          refine HO.store sz26 rfl rfl rfl rfl rfl (by exact .mk .here (by repeat constructor)) ?_
          refine HO.nil ?_
          refine HQ.keep (.cons (t := 1) rfl (.cons (t := 2) rfl (.nil))) ?_
          refine HQ.next ?_
          refine H.ret ?_
          refine HQ.block_ret ?_
          refine HQ.block_ret ?_
          refine HQ.then_ret ?_
          refine HQ.end_ rfl rfl rfl rfl (.inl rfl) _ (fun a w s => resR1 Tryd.results31 s (.agg ag26 rfl (by exact .mk .here (by repeat constructor)))) ?_
          refine ⟨_, _, .nil, ?_, rfl⟩
          unfold plain; first | (simp_all; done) | ((repeat' split) <;> simp_all <;> (intros; omega))
        · skip
          try simp only [decide_eq_true_eq, decide_eq_false_iff_not, Bool.not_eq_true', Bool.not_eq_false'] at h28
          refine H.seq ?_
          refine H.region ?_
          refine HO.v (V.fieldAddr (fs := #[]) fa26_4 rfl) (ltn rfl) ?_
          refine HO.v (V.load sc3 rfl (by exact .mk (.there .here) rfl)) (ltn rfl) ?_
          refine HO.v (V.eqlI rfl rfl) (ltn rfl) ?_
          refine HO.v (V.assign rfl) (ltn rfl) ?_
          refine HO.nil ?_
          refine HQ.keep (.cons (t := 1) rfl (.cons (t := 2) rfl (.cons (t := 3) rfl (.cons (t := 4) rfl (.cons (t := 37) rfl (.nil)))))) ?_
          refine HQ.next ?_
          refine H.condB rfl (fun h37 => ?_) (fun h37 => ?_)
          · skip
            try simp only [decide_eq_true_eq, decide_eq_false_iff_not, Bool.not_eq_true', Bool.not_eq_false'] at h37
            refine H.seq ?_
            refine H.region ?_
            refine HO.v (V.fieldAddr (fs := #[]) fa26_1 rfl) (ltn rfl) ?_
            refine HO.v (V.load sc3 rfl (by exact .mk (.there .here) rfl)) (ltn rfl) ?_
            refine HO.v (V.fieldAddr (fs := #[]) fa26_2 rfl) (ltn rfl) ?_
            refine HO.v (V.load sc3 rfl (by exact .mk (.there .here) rfl)) (ltn rfl) ?_
            refine HO.call ca54 (.cons rfl (.cons rfl (.cons rfl (.cons rfl (.nil))))) (one_w _ _ _ _) (by exact Rems.nil) (by exact Reads.nil) (ltn rfl) ?_
            rintro v45 L45 ⟨rfl, rfl⟩
            dsimp only [List.nil_append, List.cons_append]
            refine HO.store sz26 rfl rfl rfl rfl rfl (by exact .mk .here (by repeat constructor)) ?_
            refine HO.nil ?_
            refine HQ.keep (.cons (t := 1) rfl (.cons (t := 2) rfl (.nil))) ?_
            refine HQ.next ?_
            refine H.ret ?_
            refine HQ.block_ret ?_
            refine HQ.block_ret ?_
            refine HQ.then_ret ?_
            refine HQ.end_ rfl rfl rfl rfl (.inl rfl) _ (fun a w s => resR1 Tryd.results31 s (.agg ag26 rfl (by exact .mk .here (by repeat constructor)))) ?_
            refine ⟨_, _, .nil, ?_, rfl⟩
            unfold plain; first | (simp_all; done) | ((repeat' split) <;> simp_all <;> (intros; omega))
          · skip
            try simp only [decide_eq_true_eq, decide_eq_false_iff_not, Bool.not_eq_true', Bool.not_eq_false'] at h37
            refine H.seq ?_
            refine H.region ?_
            refine HO.v (V.move rfl) (ltn rfl) ?_
            refine HO.v (V.move rfl) (ltn rfl) ?_
            refine HO.part (t := 48) rfl (fun g48 => ?_) (fun g48 => ?_)
            · skip
              try simp only [decide_eq_true_eq, decide_eq_false_iff_not, Bool.not_eq_true', Bool.not_eq_false'] at g48
              refine HO.gdo rfl rfl rfl rfl ?_
              refine HO.v (V.fieldAddr (fs := #[]) fa26_0 rfl) (ltn rfl) ?_
              refine HO.gdo rfl rfl rfl rfl ?_
              refine HO.v (V.load sc3 rfl (by exact .mk (.there .here) rfl)) (ltn rfl) ?_
              refine HO.gdo rfl rfl rfl rfl ?_
              refine HO.v (V.eqlI rfl rfl) (ltn rfl) ?_
              refine HO.v (V.pickT rfl rfl) (ltn rfl) ?_
              refine HO.v (V.assign rfl) (ltn rfl) ?_
              refine HO.nil ?_
              refine HQ.keep (.cons (t := 1) rfl (.cons (t := 2) rfl (.cons (t := 3) rfl (.cons (t := 4) rfl (.cons (t := 46) rfl (.nil)))))) ?_
              refine HQ.next ?_
              refine H.condB rfl (fun h46 => ?_) (fun h46 => ?_)
              · skip
                try simp only [decide_eq_true_eq, decide_eq_false_iff_not, Bool.not_eq_true', Bool.not_eq_false'] at h46
                refine H.seq ?_
                refine H.region ?_
                refine HO.v (V.fieldAddr (fs := #[]) fa26_1 rfl) (ltn rfl) ?_
                refine HO.v (V.load sc3 rfl (by exact .mk (.there .here) rfl)) (ltn rfl) ?_
                refine HO.v (V.fieldAddr (fs := #[]) fa26_2 rfl) (ltn rfl) ?_
                refine HO.v (V.load sc3 rfl (by exact .mk (.there .here) rfl)) (ltn rfl) ?_
                refine HO.v (V.move rfl) (ltn rfl) ?_
                refine HO.call ca54 (.cons rfl (.cons rfl (.cons rfl (.cons rfl (.nil))))) (one_w _ _ _ _) (by exact Rems.nil) (by exact Reads.nil) (ltn rfl) ?_
                rintro v58 L58 ⟨rfl, rfl⟩
                dsimp only [List.nil_append, List.cons_append]
                refine HO.store sz26 rfl rfl rfl rfl rfl (by exact .mk .here (by repeat constructor)) ?_
                refine HO.nil ?_
                refine HQ.keep (.cons (t := 1) rfl (.cons (t := 2) rfl (.nil))) ?_
                refine HQ.next ?_
                refine H.ret ?_
                refine HQ.block_ret ?_
                refine HQ.block_ret ?_
                refine HQ.then_ret ?_
                refine HQ.end_ rfl rfl rfl rfl (.inl rfl) _ (fun a w s => resR1 Tryd.results31 s (.agg ag26 rfl (by exact .mk .here (by repeat constructor)))) ?_
                refine ⟨_, _, .nil, ?_, rfl⟩
                unfold plain; first | (simp_all; done) | ((repeat' split) <;> simp_all <;> (intros; omega))
              · skip
                try simp only [decide_eq_true_eq, decide_eq_false_iff_not, Bool.not_eq_true', Bool.not_eq_false'] at h46
                refine H.seq ?_
                refine H.region ?_
                refine HO.v (V.move rfl) (ltn rfl) ?_
                refine HO.v (V.assign rfl) (ltn rfl) ?_
                refine HO.nil ?_
                refine HQ.keep (.cons (t := 1) rfl (.cons (t := 2) rfl (.cons (t := 3) rfl (.cons (t := 59) rfl (.nil))))) ?_
                refine HQ.next ?_
                refine H.condB rfl (fun h59 => ?_) (fun h59 => ?_)
                · skip
                  try simp only [decide_eq_true_eq, decide_eq_false_iff_not, Bool.not_eq_true', Bool.not_eq_false'] at h59
                  refine H.seq ?_
                  refine H.region ?_
                  refine HO.v (V.fieldAddr (fs := #[]) fa26_1 rfl) (ltn rfl) ?_
                  refine HO.v (V.load sc3 rfl (by exact .mk (.there .here) rfl)) (ltn rfl) ?_
                  refine HO.v (V.fieldAddr (fs := #[]) fa26_2 rfl) (ltn rfl) ?_
                  refine HO.v (V.load sc3 rfl (by exact .mk (.there .here) rfl)) (ltn rfl) ?_
                  refine HO.v (V.move rfl) (ltn rfl) ?_
                  refine HO.call ca54 (.cons rfl (.cons rfl (.cons rfl (.cons rfl (.nil))))) (one_w _ _ _ _) (by exact Rems.nil) (by exact Reads.nil) (ltn rfl) ?_
                  rintro v66 L66 ⟨rfl, rfl⟩
                  dsimp only [List.nil_append, List.cons_append]
                  refine HO.store sz26 rfl rfl rfl rfl rfl (by exact .mk .here (by repeat constructor)) ?_
                  refine HO.nil ?_
                  refine HQ.keep (.cons (t := 1) rfl (.cons (t := 2) rfl (.nil))) ?_
                  refine HQ.next ?_
                  refine H.ret ?_
                  refine HQ.block_ret ?_
                  refine HQ.block_ret ?_
                  refine HQ.then_ret ?_
                  refine HQ.end_ rfl rfl rfl rfl (.inl rfl) _ (fun a w s => resR1 Tryd.results31 s (.agg ag26 rfl (by exact .mk .here (by repeat constructor)))) ?_
                  refine ⟨_, _, .nil, ?_, rfl⟩
                  unfold plain; first | (simp_all; done) | ((repeat' split) <;> simp_all <;> (intros; omega))
                · skip
                  try simp only [decide_eq_true_eq, decide_eq_false_iff_not, Bool.not_eq_true', Bool.not_eq_false'] at h59
                  refine H.skip ?_
                  refine HQ.block_normal ?_
                  refine HQ.block_normal ?_
                  refine HQ.next ?_
                  refine H.seq ?_
                  refine H.region ?_
                  refine HO.v (V.loadA ag26 rfl (by exact .mk (.there .here) (by repeat constructor))) (ltn rfl) ?_
                  refine HO.store sz26 rfl rfl rfl rfl rfl (by exact .mk .here (by repeat constructor)) ?_
                  refine HO.nil ?_
                  refine HQ.next ?_
                  refine H.ret ?_
                  refine HQ.end_ rfl rfl rfl rfl (.inl rfl) _ (fun a w s => resR1 Tryd.results31 s (.agg ag26 rfl (by exact .mk .here (by repeat constructor)))) ?_
                  refine ⟨_, _, .nil, ?_, rfl⟩
                  unfold plain; first | (simp_all; done) | ((repeat' split) <;> simp_all <;> (intros; omega))
            · skip
              try simp only [decide_eq_true_eq, decide_eq_false_iff_not, Bool.not_eq_true', Bool.not_eq_false'] at g48
              refine HO.gskip rfl rfl rfl rfl (ltn rfl) ?_
              refine HO.gskip rfl rfl rfl rfl (ltn rfl) ?_
              refine HO.gskip rfl rfl rfl rfl (ltn rfl) ?_
              refine HO.v (V.pickF rfl rfl) (ltn rfl) ?_
              refine HO.v (V.assign rfl) (ltn rfl) ?_
              refine HO.nil ?_
              refine HQ.keep (.cons (t := 1) rfl (.cons (t := 2) rfl (.cons (t := 3) rfl (.cons (t := 4) rfl (.cons (t := 46) rfl (.nil)))))) ?_
              refine HQ.next ?_
              refine H.condF rfl rfl ?_
              refine H.seq ?_
              refine H.region ?_
              refine HO.v (V.move rfl) (ltn rfl) ?_
              refine HO.v (V.assign rfl) (ltn rfl) ?_
              refine HO.nil ?_
              refine HQ.keep (.cons (t := 1) rfl (.cons (t := 2) rfl (.cons (t := 3) rfl (.cons (t := 59) rfl (.nil))))) ?_
              refine HQ.next ?_
              refine H.condB rfl (fun h59 => ?_) (fun h59 => ?_)
              · skip
                try simp only [decide_eq_true_eq, decide_eq_false_iff_not, Bool.not_eq_true', Bool.not_eq_false'] at h59
                refine H.seq ?_
                refine H.region ?_
                refine HO.v (V.fieldAddr (fs := #[]) fa26_1 rfl) (ltn rfl) ?_
                refine HO.v (V.load sc3 rfl (by exact .mk (.there .here) rfl)) (ltn rfl) ?_
                refine HO.v (V.fieldAddr (fs := #[]) fa26_2 rfl) (ltn rfl) ?_
                refine HO.v (V.load sc3 rfl (by exact .mk (.there .here) rfl)) (ltn rfl) ?_
                refine HO.v (V.move rfl) (ltn rfl) ?_
                refine HO.call ca54 (.cons rfl (.cons rfl (.cons rfl (.cons rfl (.nil))))) (one_w _ _ _ _) (by exact Rems.nil) (by exact Reads.nil) (ltn rfl) ?_
                rintro v66 L66 ⟨rfl, rfl⟩
                dsimp only [List.nil_append, List.cons_append]
                refine HO.store sz26 rfl rfl rfl rfl rfl (by exact .mk .here (by repeat constructor)) ?_
                refine HO.nil ?_
                refine HQ.keep (.cons (t := 1) rfl (.cons (t := 2) rfl (.nil))) ?_
                refine HQ.next ?_
                refine H.ret ?_
                refine HQ.block_ret ?_
                refine HQ.block_ret ?_
                refine HQ.then_ret ?_
                refine HQ.end_ rfl rfl rfl rfl (.inl rfl) _ (fun a w s => resR1 Tryd.results31 s (.agg ag26 rfl (by exact .mk .here (by repeat constructor)))) ?_
                refine ⟨_, _, .nil, ?_, rfl⟩
                unfold plain; first | (simp_all; done) | ((repeat' split) <;> simp_all <;> (intros; omega))
              · skip
                try simp only [decide_eq_true_eq, decide_eq_false_iff_not, Bool.not_eq_true', Bool.not_eq_false'] at h59
                refine H.skip ?_
                refine HQ.block_normal ?_
                refine HQ.block_normal ?_
                refine HQ.next ?_
                refine H.seq ?_
                refine H.region ?_
                refine HO.v (V.loadA ag26 rfl (by exact .mk (.there .here) (by repeat constructor))) (ltn rfl) ?_
                refine HO.store sz26 rfl rfl rfl rfl rfl (by exact .mk .here (by repeat constructor)) ?_
                refine HO.nil ?_
                refine HQ.next ?_
                refine H.ret ?_
                refine HQ.end_ rfl rfl rfl rfl (.inl rfl) _ (fun a w s => resR1 Tryd.results31 s (.agg ag26 rfl (by exact .mk .here (by repeat constructor)))) ?_
                refine ⟨_, _, .nil, ?_, rfl⟩
                unfold plain; first | (simp_all; done) | ((repeat' split) <;> simp_all <;> (intros; omega))
      · skip
        try simp only [decide_eq_true_eq, decide_eq_false_iff_not, Bool.not_eq_true', Bool.not_eq_false'] at h25
        refine H.skip ?_
        refine HQ.block_normal ?_
        refine HQ.next ?_
        refine H.seq ?_
        refine H.region ?_
        refine HO.v (V.loadA ag26 rfl (by exact .mk (.there .here) (by repeat constructor))) (ltn rfl) ?_
        refine HO.store sz26 rfl rfl rfl rfl rfl (by exact .mk .here (by repeat constructor)) ?_
        refine HO.nil ?_
        refine HQ.next ?_
        refine H.ret ?_
        refine HQ.end_ rfl rfl rfl rfl (.inl rfl) _ (fun a w s => resR1 Tryd.results31 s (.agg ag26 rfl (by exact .mk .here (by repeat constructor)))) ?_
        refine ⟨_, _, .nil, ?_, rfl⟩
        unfold plain; first | (simp_all; done) | ((repeat' split) <;> simp_all <;> (intros; omega))
theorem fmay_w (i : Ins) (hv : May i 128) :
    Tri Tryd.prog 30 #[vIn i] [] [] (fun v L' => v = .bool true ∧ L' = []) := by
  refine Tri.of' 15 [vIn i] [(0, vIn i)] Tryd.func30 Tryd.ntmps30 rfl rfl rfl ?_
  intro w0
  refine H.seq ?_
  refine H.region ?_
  refine HO.box rfl rfl (ltn rfl) ?_
  intro b1
  refine HO.v (V.assign rfl) (ltn rfl) ?_
  refine HO.nil ?_
  refine HQ.next ?_
  refine H.seq ?_
  refine H.region ?_
  refine HO.v (V.loadA ag26 rfl (by exact .mk .here (by repeat constructor))) (ltn rfl) ?_
  refine HO.buildRow encIn ([i]) Tryd.underlying24 ze26 (.cons rfl (.nil)) (.cons rfl (.nil)) (Nat.le_of_ble_eq_true rfl) (Nat.le_of_ble_eq_true rfl) (ltn rfl) ?_
  intro b7
  refine HO.buildRow (encI .i64) ([0]) Tryd.underlying30 ze3 (.cons rfl (.nil)) (.cons rfl (.nil)) (Nat.le_of_ble_eq_true rfl) (Nat.le_of_ble_eq_true rfl) (ltn rfl) ?_
  intro b8
  refine HO.v (V.build ze38 pl38 rfl (.cons rfl (.cons rfl (.cons rfl (.cons rfl (.nil))))) (.cons rfl rfl rfl (by repeat constructor) (.cons rfl rfl rfl (by repeat constructor) (.cons rfl rfl rfl (by repeat constructor) (.cons rfl rfl rfl (by repeat constructor) (.nil)))))) (ltn rfl) ?_
  refine HO.call ca35 (.cons rfl (.nil)) (check_w ⟨1, 128, [i], [0]⟩ _ _ _ _ (right_one i hv)) (by exact Rems.nil) (by (refine Reads.row (.tail _ (.head _)) ?_); (refine Reads.row (.head _) ?_); exact Reads.nil) (ltn rfl) ?_
  rintro v10 L10 ⟨rfl, rfl⟩
  dsimp only [List.nil_append, List.cons_append]
  refine HO.v (V.move rfl) (ltn rfl) ?_
  refine HO.v (V.extract rfl rfl) (ltn rfl) ?_
  refine HO.v (V.extract rfl rfl) (ltn rfl) ?_
  refine HO.v (V.assign rfl) (ltn rfl) ?_
  refine HO.v (V.assign rfl) (ltn rfl) ?_
  refine HO.nil ?_
  refine HQ.keep (.cons (t := 2) rfl (.cons (t := 4) rfl (.nil))) ?_
  refine HQ.next ?_
  refine H.seq ?_
  refine H.region ?_
  refine HO.v (V.move rfl) (ltn rfl) ?_
  refine HO.v (V.eqlI rfl rfl) (ltn rfl) ?_
  refine HO.v (V.assign rfl) (ltn rfl) ?_
  refine HO.nil ?_
  refine HQ.next ?_
  refine H.ret ?_
  refine HQ.end_ rfl rfl rfl rfl (.inl rfl) _ (fun a w s => res1 Tryd.results30 s rfl) ?_
  exact ⟨_, _, .nil, rfl, rfl⟩
theorem Plain_w (i : Ins) (hv : May i 128) :
    Tri Tryd.prog 11 #[vIn i] [tabCh] [] (fun v L' => v = .tuple #[vIn (plain i), .bool (!decide (plain i = i))] ∧ L' = []) := by
  refine Tri.of' 15 [vIn i] [(0, vIn i)] Tryd.func11 Tryd.ntmps11 rfl rfl rfl ?_
  intro w0
  refine H.seq ?_
  refine H.region ?_
  refine HO.box rfl rfl (ltn rfl) ?_
  intro b1
  refine HO.alloc ze26 rfl (ltn rfl) ?_
  intro b2
  refine HO.v (V.assign rfl) (ltn rfl) ?_
  refine HO.nil ?_
  refine HQ.next ?_
  refine H.seq ?_
  refine H.seq ?_
  refine H.region ?_
  refine HO.v (V.loadA ag26 rfl (by exact .mk (.there .here) (by repeat constructor))) (ltn rfl) ?_
  refine HO.call ca30 (.cons rfl (.nil)) (fmay_w i hv) (by exact Rems.nil) (by exact Reads.nil) (ltn rfl) ?_
  rintro v6 L6 ⟨rfl, rfl⟩
  dsimp only [List.nil_append, List.cons_append]
  refine HO.v (V.not rfl) (ltn rfl) ?_
  refine HO.nil ?_
  refine HQ.keep (.cons (t := 1) rfl (.cons (t := 2) rfl (.cons (t := 3) rfl (.cons (t := 7) rfl (.nil))))) ?_
  refine HQ.next ?_
  refine H.condF rfl rfl ?_
  refine H.skip ?_
  refine HQ.next ?_
  refine H.seq ?_
  refine H.region ?_
  refine HO.v (V.loadA ag26 rfl (by exact .mk (.there .here) (by repeat constructor))) (ltn rfl) ?_
  refine HO.call ca31 (.cons rfl (.nil)) (plain_w i (cok_bd (op := i.op) hv.c)) (by exact Rems.nil) (by (refine Reads.ro (.head _) ?_); exact Reads.nil) (ltn rfl) ?_
  rintro v10 L10 ⟨rfl, rfl⟩
  dsimp only [List.nil_append, List.cons_append]
  refine HO.alloc ze26 rfl (ltn rfl) ?_
  intro b4
  refine HO.store sz26 rfl rfl rfl rfl rfl (by exact .mk .here (by repeat constructor)) ?_
  refine HO.nil ?_
  refine HQ.keep (.cons (t := 1) rfl (.cons (t := 2) rfl (.cons (t := 3) rfl (.cons (t := 4) rfl (.nil))))) ?_
  refine HQ.next ?_
  refine H.seq ?_
  refine H.draws (.cons (i := 0) rfl (.cons (i := 2) rfl (.nil))) (by kernel_rfl) ?_
  refine HA.take (i := 0) rfl rfl (ltn rfl) (by kernel_rfl) (by kernel_rfl) (by kernel_rfl) (gives_of want_none (V.loadA ag26 rfl (by exact .mk .here (by repeat constructor)))) (.cons (by exact (.head _)) (.cons (by exact (.tail _ (.tail _ (.head _)))) (Sub.nil))) rfl ?_
  refine HA.take (i := 1) rfl rfl (ltn rfl) (by kernel_rfl) (by kernel_rfl) (by kernel_rfl) (gives_of want_none (V.loadA ag26 rfl (by exact .mk .here (by repeat constructor)))) (.cons (by exact (.head _)) (.cons (by exact (.tail _ (.tail _ (.head _)))) (Sub.nil))) rfl ?_
  refine HA.take (i := 2) rfl rfl (ltn rfl) (by kernel_rfl) (by kernel_rfl) (by kernel_rfl) (gives_of want_none (V.loadA ag26 rfl (by exact .mk (.there .here) (by repeat constructor)))) (.cons (by exact (.head _)) (.cons (by exact (.tail _ (.tail _ (.head _)))) (Sub.nil))) rfl ?_
  refine HA.take (i := 3) rfl rfl (ltn rfl) (by kernel_rfl) (by kernel_rfl) (by kernel_rfl) (gives_of want_none (V.neqS [_, _, _, _, _] [_, _, _, _, _] if26 rfl rfl rfl rfl)) (.cons (by exact (.head _)) (.cons (by exact (.tail _ (.tail _ (.head _)))) (Sub.nil))) rfl ?_
  refine HA.one (i := 4) rfl (by kernel_rfl) ?_
  refine HO.store sz26 rfl rfl rfl rfl rfl (by exact .mk (.there .here) (by repeat constructor)) ?_
  refine HO.nil ?_
  refine HQ.again (.cons (by exact (.tail _ (.head _))) (.cons (by exact (.tail _ (.tail _ (.head _)))) (Sub.nil))) rfl ?_
  refine HA.take (i := 5) rfl rfl (ltn rfl) (by kernel_rfl) (by kernel_rfl) (by kernel_rfl) (gives_of want_none (V.assign rfl)) (.cons (by exact (.tail _ (.head _))) (.cons (by exact (.tail _ (.tail _ (.head _)))) (Sub.nil))) rfl ?_
  refine HA.done (by kernel_rfl) ?_
  refine HQ.keep (.cons (t := 2) rfl (.cons (t := 3) rfl (.nil))) ?_
  refine HQ.next ?_
  refine H.ret ?_
  refine HQ.end_ rfl rfl rfl rfl (.inl rfl) _ (fun a w s => resR2 Tryd.results11 s (.agg ag26 rfl (by exact .mk .here (by repeat constructor))) (.tmp rfl)) ?_
  exact ⟨_, _, .nil, by rw [insD], rfl⟩
theorem melt_w (a b : Ins) (ha : May a 128) (hb : May b 128) :
    Tri Tryd.prog 32 #[vIn a, vIn b] [tabCh] [] (fun v L' => v = .tuple #[vIn (melt a b).1, .bool (melt a b).2] ∧ L' = []) := by
  have hca : cok a.op a.c = true := ha.c
  have hcb : cok b.op b.c = true := hb.c
  have hs := And.intro hb.op1 hb.op8
  refine Tri.of' 56 [vIn a, vIn b] [(0, vIn a), (1, vIn b)] Tryd.func32 Tryd.ntmps32 rfl rfl rfl ?_
  intro w0
  refine H.seq ?_
  refine H.region ?_
  refine HO.box rfl rfl (ltn rfl) ?_
  intro b2
  refine HO.box rfl rfl (ltn rfl) ?_
  intro b3
  refine HO.alloc ze26 rfl (ltn rfl) ?_
  intro b4
  refine HO.v (V.assign rfl) (ltn rfl) ?_
  refine HO.nil ?_
  refine HQ.next ?_
  refine H.seq ?_
  refine H.seq ?_
  refine H.region ?_
  refine HO.v (V.fieldAddr (fs := #[]) fa26_0 rfl) (ltn rfl) ?_
  refine HO.v (V.load sc3 rfl (by exact .mk (.there .here) rfl)) (ltn rfl) ?_
  refine HO.v (V.eqlI rfl rfl) (ltn rfl) ?_
  refine HO.v (V.move rfl) (ltn rfl) ?_
  refine HO.part (t := 12) rfl (fun g12 => ?_) (fun g12 => ?_)
  · skip
    try simp only [decide_eq_true_eq, decide_eq_false_iff_not, Bool.not_eq_true', Bool.not_eq_false'] at g12
    refine HO.gskip rfl rfl rfl rfl (ltn rfl) ?_
    refine HO.gskip rfl rfl rfl rfl (ltn rfl) ?_
    refine HO.gskip rfl rfl rfl rfl (ltn rfl) ?_
    refine HO.v (V.pickT rfl rfl) (ltn rfl) ?_
    refine HO.v (V.move rfl) (ltn rfl) ?_
    refine HO.gskip rfl rfl rfl rfl (ltn rfl) ?_
    refine HO.gskip rfl rfl rfl rfl (ltn rfl) ?_
    refine HO.gskip rfl rfl rfl rfl (ltn rfl) ?_
    refine HO.gskip rfl rfl rfl rfl (ltn rfl) ?_
    refine HO.gskip rfl rfl rfl rfl (ltn rfl) ?_
    refine HO.v (V.pickT rfl rfl) (ltn rfl) ?_
    refine HO.v (V.move rfl) (ltn rfl) ?_
    refine HO.gskip rfl rfl rfl rfl (ltn rfl) ?_
    refine HO.gskip rfl rfl rfl rfl (ltn rfl) ?_
    refine HO.gskip rfl rfl rfl rfl (ltn rfl) ?_
    refine HO.gskip rfl rfl rfl rfl (ltn rfl) ?_
    refine HO.gskip rfl rfl rfl rfl (ltn rfl) ?_
    refine HO.v (V.pickT rfl rfl) (ltn rfl) ?_
    refine HO.nil ?_
    refine HQ.keep (.cons (t := 2) rfl (.cons (t := 3) rfl (.cons (t := 4) rfl (.cons (t := 5) rfl (.cons (t := 30) rfl (.nil)))))) ?_
    refine HQ.next ?_
    refine H.condT rfl rfl ?_
    refine H.seq ?_
    refine H.region ?_
    refine HO.v (V.build ze26 pl26 rfl (.nil) (.nil)) (ltn rfl) ?_
    refine HO.store sz26 rfl rfl rfl rfl rfl (by exact .mk .here (by repeat constructor)) ?_
    refine HO.v (V.assign rfl) (ltn rfl) ?_
    refine HO.nil ?_
    refine HQ.next ?_
    refine H.ret ?_
    refine HQ.then_ret ?_
    refine HQ.end_ rfl rfl rfl rfl (.inl rfl) _ (fun a w s => resR2 Tryd.results32 s (.agg ag26 rfl (by exact .mk .here (by repeat constructor))) (.tmp rfl)) ?_
    refine ⟨_, _, .nil, ?_, rfl⟩
    unfold melt; first | (simp_all [noIns]; done) | (simp_all [noIns] <;> (intros; omega))
  · skip
    try simp only [decide_eq_true_eq, decide_eq_false_iff_not, Bool.not_eq_true', Bool.not_eq_false'] at g12
    refine HO.gdo rfl rfl rfl rfl ?_
    refine HO.v (V.fieldAddr (fs := #[]) fa26_0 rfl) (ltn rfl) ?_
    refine HO.gdo rfl rfl rfl rfl ?_
    refine HO.v (V.load sc3 rfl (by exact .mk (.there .here) rfl)) (ltn rfl) ?_
    refine HO.gdo rfl rfl rfl rfl ?_
    refine HO.v (V.eqlI rfl rfl) (ltn rfl) ?_
    refine HO.v (V.pickF rfl rfl) (ltn rfl) ?_
    refine HO.v (V.move rfl) (ltn rfl) ?_
    refine HO.part (t := 17) rfl (fun g17 => ?_) (fun g17 => ?_)
    · skip
      try simp only [decide_eq_true_eq, decide_eq_false_iff_not, Bool.not_eq_true', Bool.not_eq_false'] at g17
      refine HO.gskip rfl rfl rfl rfl (ltn rfl) ?_
      refine HO.gskip rfl rfl rfl rfl (ltn rfl) ?_
      refine HO.gskip rfl rfl rfl rfl (ltn rfl) ?_
      refine HO.gskip rfl rfl rfl rfl (ltn rfl) ?_
      refine HO.gskip rfl rfl rfl rfl (ltn rfl) ?_
      refine HO.v (V.pickT rfl rfl) (ltn rfl) ?_
      refine HO.v (V.move rfl) (ltn rfl) ?_
      refine HO.gskip rfl rfl rfl rfl (ltn rfl) ?_
      refine HO.gskip rfl rfl rfl rfl (ltn rfl) ?_
      refine HO.gskip rfl rfl rfl rfl (ltn rfl) ?_
      refine HO.gskip rfl rfl rfl rfl (ltn rfl) ?_
      refine HO.gskip rfl rfl rfl rfl (ltn rfl) ?_
      refine HO.v (V.pickT rfl rfl) (ltn rfl) ?_
      refine HO.nil ?_
      refine HQ.keep (.cons (t := 2) rfl (.cons (t := 3) rfl (.cons (t := 4) rfl (.cons (t := 5) rfl (.cons (t := 30) rfl (.nil)))))) ?_
      refine HQ.next ?_
      refine H.condT rfl rfl ?_
      refine H.seq ?_
      refine H.region ?_
      refine HO.v (V.build ze26 pl26 rfl (.nil) (.nil)) (ltn rfl) ?_
      refine HO.store sz26 rfl rfl rfl rfl rfl (by exact .mk .here (by repeat constructor)) ?_
      refine HO.v (V.assign rfl) (ltn rfl) ?_
      refine HO.nil ?_
      refine HQ.next ?_
      refine H.ret ?_
      refine HQ.then_ret ?_
      refine HQ.end_ rfl rfl rfl rfl (.inl rfl) _ (fun a w s => resR2 Tryd.results32 s (.agg ag26 rfl (by exact .mk .here (by repeat constructor))) (.tmp rfl)) ?_
      refine ⟨_, _, .nil, ?_, rfl⟩
      unfold melt; first | (simp_all [noIns]; done) | (simp_all [noIns] <;> (intros; omega))
    · skip
      try simp only [decide_eq_true_eq, decide_eq_false_iff_not, Bool.not_eq_true', Bool.not_eq_false'] at g17
      refine HO.gdo rfl rfl rfl rfl ?_
      refine HO.v (V.fieldAddr (fs := #[]) fa26_2 rfl) (ltn rfl) ?_
      refine HO.gdo rfl rfl rfl rfl ?_
      refine HO.v (V.load sc3 rfl (by exact .mk (.there .here) rfl)) (ltn rfl) ?_
      refine HO.gdo rfl rfl rfl rfl ?_
      refine HO.v (V.fieldAddr (fs := #[]) fa26_1 rfl) (ltn rfl) ?_
      refine HO.gdo rfl rfl rfl rfl ?_
      refine HO.v (V.load sc3 rfl (by exact .mk (.there (.there .here)) rfl)) (ltn rfl) ?_
      refine HO.gdo rfl rfl rfl rfl ?_
      refine HO.v (V.neqI rfl rfl) (ltn rfl) ?_
      refine HO.v (V.pickF rfl rfl) (ltn rfl) ?_
      refine HO.v (V.move rfl) (ltn rfl) ?_
      refine HO.part (t := 24) rfl (fun g24 => ?_) (fun g24 => ?_)
      · skip
        try simp only [decide_eq_true_eq, decide_eq_false_iff_not, Bool.not_eq_true', Bool.not_eq_false'] at g24
        refine HO.gskip rfl rfl rfl rfl (ltn rfl) ?_
        refine HO.gskip rfl rfl rfl rfl (ltn rfl) ?_
        refine HO.gskip rfl rfl rfl rfl (ltn rfl) ?_
        refine HO.gskip rfl rfl rfl rfl (ltn rfl) ?_
        refine HO.gskip rfl rfl rfl rfl (ltn rfl) ?_
        refine HO.v (V.pickT rfl rfl) (ltn rfl) ?_
        refine HO.nil ?_
        refine HQ.keep (.cons (t := 2) rfl (.cons (t := 3) rfl (.cons (t := 4) rfl (.cons (t := 5) rfl (.cons (t := 30) rfl (.nil)))))) ?_
        refine HQ.next ?_
        refine H.condT rfl rfl ?_
        refine H.seq ?_
        refine H.region ?_
        refine HO.v (V.build ze26 pl26 rfl (.nil) (.nil)) (ltn rfl) ?_
        refine HO.store sz26 rfl rfl rfl rfl rfl (by exact .mk .here (by repeat constructor)) ?_
        refine HO.v (V.assign rfl) (ltn rfl) ?_
        refine HO.nil ?_
        refine HQ.next ?_
        refine H.ret ?_
        refine HQ.then_ret ?_
        refine HQ.end_ rfl rfl rfl rfl (.inl rfl) _ (fun a w s => resR2 Tryd.results32 s (.agg ag26 rfl (by exact .mk .here (by repeat constructor))) (.tmp rfl)) ?_
        refine ⟨_, _, .nil, ?_, rfl⟩
        unfold melt; first | (simp_all [noIns]; done) | (simp_all [noIns] <;> (intros; omega))
      · skip
        try simp only [decide_eq_true_eq, decide_eq_false_iff_not, Bool.not_eq_true', Bool.not_eq_false'] at g24
        refine HO.gdo rfl rfl rfl rfl ?_
        refine HO.v (V.fieldAddr (fs := #[]) fa26_1 rfl) (ltn rfl) ?_
        refine HO.gdo rfl rfl rfl rfl ?_
        refine HO.v (V.load sc3 rfl (by exact .mk (.there .here) rfl)) (ltn rfl) ?_
        refine HO.gdo rfl rfl rfl rfl ?_
        refine HO.v (V.fieldAddr (fs := #[]) fa26_1 rfl) (ltn rfl) ?_
        refine HO.gdo rfl rfl rfl rfl ?_
        refine HO.v (V.load sc3 rfl (by exact .mk (.there (.there .here)) rfl)) (ltn rfl) ?_
        refine HO.gdo rfl rfl rfl rfl ?_
        refine HO.v (V.neqI rfl rfl) (ltn rfl) ?_
        refine HO.v (V.pickF rfl rfl) (ltn rfl) ?_
        refine HO.nil ?_
        refine HQ.keep (.cons (t := 2) rfl (.cons (t := 3) rfl (.cons (t := 4) rfl (.cons (t := 5) rfl (.cons (t := 30) rfl (.nil)))))) ?_
        refine HQ.next ?_
        refine H.condB rfl (fun h30 => ?_) (fun h30 => ?_)
        · skip
          try simp only [decide_eq_true_eq, decide_eq_false_iff_not, Bool.not_eq_true', Bool.not_eq_false'] at h30
          refine H.seq ?_
          refine H.region ?_
          refine HO.v (V.build ze26 pl26 rfl (.nil) (.nil)) (ltn rfl) ?_
          refine HO.store sz26 rfl rfl rfl rfl rfl (by exact .mk .here (by repeat constructor)) ?_
          refine HO.v (V.assign rfl) (ltn rfl) ?_
          refine HO.nil ?_
          refine HQ.next ?_
          refine H.ret ?_
          refine HQ.then_ret ?_
          refine HQ.end_ rfl rfl rfl rfl (.inl rfl) _ (fun a w s => resR2 Tryd.results32 s (.agg ag26 rfl (by exact .mk .here (by repeat constructor))) (.tmp rfl)) ?_
          refine ⟨_, _, .nil, ?_, rfl⟩
          unfold melt; first | (simp_all [noIns]; done) | (simp_all [noIns] <;> (intros; omega))
        · skip
          try simp only [decide_eq_true_eq, decide_eq_false_iff_not, Bool.not_eq_true', Bool.not_eq_false'] at h30
          refine H.skip ?_
          refine HQ.next ?_
          refine H.seq ?_
          refine H.region ?_
          refine HO.v (V.fieldAddr (fs := #[]) fa26_0 rfl) (ltn rfl) ?_
          refine HO.v (V.load sc3 rfl (by exact .mk (.there (.there .here)) rfl)) (ltn rfl) ?_
          refine HO.v (V.fieldAddr (fs := #[]) fa26_4 rfl) (ltn rfl) ?_
          refine HO.v (V.load sc3 rfl (by exact .mk (.there (.there .here)) rfl)) (ltn rfl) ?_
          refine HO.v (V.fieldAddr (fs := #[]) fa26_0 rfl) (ltn rfl) ?_
          refine HO.v (V.load sc3 rfl (by exact .mk (.there .here) rfl)) (ltn rfl) ?_
          refine HO.v (V.fieldAddr (fs := #[]) fa26_4 rfl) (ltn rfl) ?_
          refine HO.v (V.load sc3 rfl (by exact .mk (.there .here) rfl)) (ltn rfl) ?_
          refine HO.call ca55 (.cons rfl (.cons rfl (.cons rfl (.cons rfl (.nil))))) (together_w _ _ _ _ (cok_bd hca) (cok_bd hcb) (fun h5 h6 => ⟨cok_nz hca (.inl h5), cok_nz hcb (.inr h6)⟩)) (by exact Rems.nil) (by exact Reads.nil) (ltn rfl) ?_
          rintro v41 L41 ⟨rfl, rfl⟩
          dsimp only [List.nil_append, List.cons_append]
          refine HO.v (V.move rfl) (ltn rfl) ?_
          refine HO.v (V.extract rfl rfl) (ltn rfl) ?_
          refine HO.v (V.extract rfl rfl) (ltn rfl) ?_
          refine HO.v (V.extract rfl rfl) (ltn rfl) ?_
          refine HO.v (V.assign rfl) (ltn rfl) ?_
          refine HO.v (V.assign rfl) (ltn rfl) ?_
          refine HO.v (V.assign rfl) (ltn rfl) ?_
          refine HO.nil ?_
          refine HQ.keep (.cons (t := 2) rfl (.cons (t := 3) rfl (.cons (t := 4) rfl (.cons (t := 5) rfl (.cons (t := 6) rfl (.cons (t := 7) rfl (.cons (t := 8) rfl (.nil)))))))) ?_
          refine HQ.next ?_
          refine H.seq ?_
          refine H.seq ?_
          refine H.region ?_
          refine HO.v (V.move rfl) (ltn rfl) ?_
          refine HO.v (V.not rfl) (ltn rfl) ?_
          refine HO.nil ?_
          refine HQ.keep (.cons (t := 2) rfl (.cons (t := 3) rfl (.cons (t := 4) rfl (.cons (t := 5) rfl (.cons (t := 6) rfl (.cons (t := 7) rfl (.cons (t := 46) rfl (.nil)))))))) ?_
          refine HQ.next ?_
          refine H.condB rfl (fun h46 => ?_) (fun h46 => ?_)
          · skip
            try simp only [decide_eq_true_eq, decide_eq_false_iff_not, Bool.not_eq_true', Bool.not_eq_false'] at h46
            refine H.seq ?_
            refine H.region ?_
            refine HO.v (V.build ze26 pl26 rfl (.nil) (.nil)) (ltn rfl) ?_
            refine HO.store sz26 rfl rfl rfl rfl rfl (by exact .mk .here (by repeat constructor)) ?_
            refine HO.v (V.assign rfl) (ltn rfl) ?_
            refine HO.nil ?_
            refine HQ.keep (.cons (t := 2) rfl (.cons (t := 3) rfl (.cons (t := 4) rfl (.cons (t := 5) rfl (.cons (t := 6) rfl (.cons (t := 7) rfl (.nil))))))) ?_
            refine HQ.next ?_
            refine H.ret ?_
            refine HQ.then_ret ?_
            refine HQ.end_ rfl rfl rfl rfl (.inl rfl) _ (fun a w s => resR2 Tryd.results32 s (.agg ag26 rfl (by exact .mk .here (by repeat constructor))) (.tmp rfl)) ?_
            refine ⟨_, _, .nil, ?_, rfl⟩
            unfold melt; first | (simp_all [noIns]; done) | (simp_all [noIns] <;> (intros; omega))
          · skip
            try simp only [decide_eq_true_eq, decide_eq_false_iff_not, Bool.not_eq_true', Bool.not_eq_false'] at h46
            refine H.skip ?_
            refine HQ.keep (.cons (t := 2) rfl (.cons (t := 3) rfl (.cons (t := 4) rfl (.cons (t := 5) rfl (.cons (t := 6) rfl (.cons (t := 7) rfl (.nil))))))) ?_
            refine HQ.next ?_
            refine H.seq ?_
            refine H.region ?_
            refine HO.v (V.move rfl) (ltn rfl) ?_
            refine HO.v (V.fieldAddr (fs := #[]) fa26_1 rfl) (ltn rfl) ?_
            refine HO.v (V.load sc3 rfl (by exact .mk (.there .here) rfl)) (ltn rfl) ?_
            refine HO.v (V.fieldAddr (fs := #[]) fa26_2 rfl) (ltn rfl) ?_
            refine HO.v (V.load sc3 rfl (by exact .mk (.there (.there .here)) rfl)) (ltn rfl) ?_
            refine HO.v (V.move rfl) (ltn rfl) ?_
            refine HO.call ca54 (.cons rfl (.cons rfl (.cons rfl (.cons rfl (.nil))))) (one_w _ _ _ _) (by exact Rems.nil) (by exact Reads.nil) (ltn rfl) ?_
            rintro v54 L54 ⟨rfl, rfl⟩
            dsimp only [List.nil_append, List.cons_append]
            refine HO.call ca31 (.cons rfl (.nil)) (plain_w _ (cok_bd (together_ok hca hcb hs (by omega) (by first | assumption | simp_all)).1)) (by exact Rems.nil) (by (refine Reads.ro (.head _) ?_); exact Reads.nil) (ltn rfl) ?_
            rintro v55 L55 ⟨rfl, rfl⟩
            dsimp only [List.nil_append, List.cons_append]
            refine HO.store sz26 rfl rfl rfl rfl rfl (by exact .mk .here (by repeat constructor)) ?_
            refine HO.v (V.assign rfl) (ltn rfl) ?_
            refine HO.nil ?_
            refine HQ.keep (.cons (t := 4) rfl (.cons (t := 5) rfl (.nil))) ?_
            refine HQ.next ?_
            refine H.ret ?_
            refine HQ.end_ rfl rfl rfl rfl (.inl rfl) _ (fun a w s => resR2 Tryd.results32 s (.agg ag26 rfl (by exact .mk .here (by repeat constructor))) (.tmp rfl)) ?_
            refine ⟨_, _, .nil, ?_, rfl⟩
            unfold melt; first | (simp_all [noIns]; done) | (simp_all [noIns] <;> (intros; omega))
theorem Melt_w (a b : Ins) (ha : May a 128) (hb : May b 128) :
    Tri Tryd.prog 13 #[vIn a, vIn b] [tabCh] [] (fun v L' => v = .tuple #[vIn (meltX a b).1, .bool (meltX a b).2] ∧ L' = []) := by
  refine Tri.of' 32 [vIn a, vIn b] [(0, vIn a), (1, vIn b)] Tryd.func13 Tryd.ntmps13 rfl rfl rfl ?_
  intro w0
  refine H.seq ?_
  refine H.region ?_
  refine HO.box rfl rfl (ltn rfl) ?_
  intro b2
  refine HO.box rfl rfl (ltn rfl) ?_
  intro b3
  refine HO.alloc ze26 rfl (ltn rfl) ?_
  intro b4
  refine HO.v (V.assign rfl) (ltn rfl) ?_
  refine HO.nil ?_
  refine HQ.next ?_
  refine H.seq ?_
  refine H.seq ?_
  refine H.draws (.cons (i := 0) rfl (.cons (i := 1) rfl (.cons (i := 2) rfl (.nil)))) (by kernel_rfl) ?_
  refine HA.take (i := 0) rfl rfl (ltn rfl) (by kernel_rfl) (by kernel_rfl) (by kernel_rfl) (gives_of want_none (V.loadA ag26 rfl (by exact .mk (.there (.there .here)) (by repeat constructor)))) (.cons (by exact (.head _)) (.cons (by exact (.tail _ (.head _))) (.cons (by exact (.tail _ (.tail _ (.head _)))) (Sub.nil)))) rfl ?_
  refine HA.one (i := 1) rfl (by kernel_rfl) ?_
  refine HO.call ca30 (.cons rfl (.nil)) (fmay_w a ha) (by exact Rems.nil) (by exact Reads.nil) (ltn rfl) ?_
  rintro v7 L7 ⟨rfl, rfl⟩
  dsimp only [List.nil_append, List.cons_append]
  refine HO.nil ?_
  refine HQ.again (.cons (by exact (.head _)) (.cons (by exact (.tail _ (.head _))) (.cons (by exact (.tail _ (.tail _ (.head _)))) (Sub.nil)))) rfl ?_
  refine HA.take (i := 2) rfl rfl (ltn rfl) (by kernel_rfl) (by kernel_rfl) (by kernel_rfl) (gives_of want_none (V.not rfl)) (.cons (by exact (.head _)) (.cons (by exact (.tail _ (.head _))) (.cons (by exact (.tail _ (.tail _ (.head _)))) (Sub.nil)))) rfl ?_
  refine HA.take (i := 3) rfl rfl (ltn rfl) (by kernel_rfl) (by kernel_rfl) (by kernel_rfl) (gives_of want_none (V.move rfl)) (.cons (by exact (.head _)) (.cons (by exact (.tail _ (.head _))) (.cons (by exact (.tail _ (.tail _ (.head _)))) (Sub.nil)))) rfl ?_
  refine HA.take (i := 4) rfl rfl (ltn rfl) (by kernel_rfl) (by kernel_rfl) (by kernel_rfl) (gives_of (want_some rfl rfl rfl rfl) (V.loadA ag26 rfl (by exact .mk (.there .here) (by repeat constructor)))) (.cons (by exact (.head _)) (.cons (by exact (.tail _ (.head _))) (.cons (by exact (.tail _ (.tail _ (.head _)))) (Sub.nil)))) rfl ?_
  refine HA.one (i := 5) rfl (by kernel_rfl) ?_
  refine HO.gdo rfl rfl rfl rfl ?_
  refine HO.call ca30 (.cons rfl (.nil)) (fmay_w b hb) (by exact Rems.nil) (by exact Reads.nil) (ltn rfl) ?_
  rintro v11 L11 ⟨rfl, rfl⟩
  dsimp only [List.nil_append, List.cons_append]
  refine HO.nil ?_
  refine HQ.again (.cons (by exact (.head _)) (.cons (by exact (.tail _ (.head _))) (.cons (by exact (.tail _ (.tail _ (.head _)))) (Sub.nil)))) rfl ?_
  refine HA.take (i := 6) rfl rfl (ltn rfl) (by kernel_rfl) (by kernel_rfl) (by kernel_rfl) (gives_of (want_some rfl rfl rfl rfl) (V.not rfl)) (.cons (by exact (.head _)) (.cons (by exact (.tail _ (.head _))) (.cons (by exact (.tail _ (.tail _ (.head _)))) (Sub.nil)))) rfl ?_
  refine HA.take (i := 7) rfl rfl (ltn rfl) (by kernel_rfl) (by kernel_rfl) (by kernel_rfl) (gives_of want_none (V.pickF rfl rfl)) (.cons (by exact (.head _)) (.cons (by exact (.tail _ (.head _))) (.cons (by exact (.tail _ (.tail _ (.head _)))) (Sub.nil)))) rfl ?_
  refine HA.take (i := 8) rfl rfl (ltn rfl) (by kernel_rfl) (by kernel_rfl) (by kernel_rfl) (gives_of want_none (V.move rfl)) (.cons (by exact (.head _)) (.cons (by exact (.tail _ (.head _))) (.cons (by exact (.tail _ (.tail _ (.head _)))) (Sub.nil)))) rfl ?_
  refine HA.take (i := 9) rfl rfl (ltn rfl) (by kernel_rfl) (by kernel_rfl) (by kernel_rfl) (gives_of (want_some rfl rfl rfl rfl) (V.loadA ag26 rfl (by exact .mk (.there (.there .here)) (by repeat constructor)))) (.cons (by exact (.head _)) (.cons (by exact (.tail _ (.head _))) (.cons (by exact (.tail _ (.tail _ (.head _)))) (Sub.nil)))) rfl ?_
  refine HA.take (i := 11) rfl rfl (ltn rfl) (by kernel_rfl) (by kernel_rfl) (by kernel_rfl) (gives_of (want_some rfl rfl rfl rfl) (V.loadA ag26 rfl (by exact .mk (.there (.there .here)) (by repeat constructor)))) (.cons (by exact (.head _)) (.cons (by exact (.tail _ (.head _))) (.cons (by exact (.tail _ (.tail _ (.head _)))) (Sub.nil)))) rfl ?_
  refine HA.one (i := 10) rfl (by kernel_rfl) ?_
  refine HO.gdo rfl rfl rfl rfl ?_
  refine HO.call ca31 (.cons rfl (.nil)) (plain_w a (cok_bd (op := a.op) ha.c)) (by exact Rems.nil) (by (refine Reads.ro (.head _) ?_); exact Reads.nil) (ltn rfl) ?_
  rintro v16 L16 ⟨rfl, rfl⟩
  dsimp only [List.nil_append, List.cons_append]
  refine HO.nil ?_
  refine HQ.again (.cons (by exact (.head _)) (.cons (by exact (.tail _ (.head _))) (.cons (by exact (.tail _ (.tail _ (.head _)))) (Sub.nil)))) rfl ?_
  refine HA.take (i := 12) rfl rfl (ltn rfl) (by kernel_rfl) (by kernel_rfl) (by kernel_rfl) (gives_of (want_some rfl rfl rfl rfl) (V.neqS [_, _, _, _, _] [_, _, _, _, _] if26 rfl rfl rfl rfl)) (.cons (by exact (.head _)) (.cons (by exact (.tail _ (.head _))) (.cons (by exact (.tail _ (.tail _ (.head _)))) (Sub.nil)))) rfl ?_
  refine HA.take (i := 13) rfl rfl (ltn rfl) (by kernel_rfl) (by kernel_rfl) (by kernel_rfl) (gives_of want_none (V.pickF rfl rfl)) (.cons (by exact (.head _)) (.cons (by exact (.tail _ (.head _))) (.cons (by exact (.tail _ (.tail _ (.head _)))) (Sub.nil)))) rfl ?_
  refine HA.take (i := 14) rfl rfl (ltn rfl) (by kernel_rfl) (by kernel_rfl) (by kernel_rfl) (gives_of want_none (V.move rfl)) (.cons (by exact (.head _)) (.cons (by exact (.tail _ (.head _))) (.cons (by exact (.tail _ (.tail _ (.head _)))) (Sub.nil)))) rfl ?_
  refine HA.part (t := 20) rfl (fun g20 => ?_) (fun g20 => ?_)
  · skip
    try simp only [decide_eq_true_eq, decide_eq_false_iff_not, Bool.not_eq_true', Bool.not_eq_false', insL] at g20
    refine HA.take (i := 15) rfl rfl (ltn rfl) (by kernel_rfl) (by kernel_rfl) (by kernel_rfl) (gives_not (want_not rfl rfl rfl rfl)) (.cons (by exact (.head _)) (.cons (by exact (.tail _ (.head _))) (.cons (by exact (.tail _ (.tail _ (.head _)))) (Sub.nil)))) rfl ?_
    refine HA.take (i := 17) rfl rfl (ltn rfl) (by kernel_rfl) (by kernel_rfl) (by kernel_rfl) (gives_not (want_not rfl rfl rfl rfl)) (.cons (by exact (.head _)) (.cons (by exact (.tail _ (.head _))) (.cons (by exact (.tail _ (.tail _ (.head _)))) (Sub.nil)))) rfl ?_
    refine HA.take (i := 16) rfl rfl (ltn rfl) (by kernel_rfl) (by kernel_rfl) (by kernel_rfl) (gives_not (want_not rfl rfl rfl rfl)) (.cons (by exact (.head _)) (.cons (by exact (.tail _ (.head _))) (.cons (by exact (.tail _ (.tail _ (.head _)))) (Sub.nil)))) rfl ?_
    refine HA.take (i := 18) rfl rfl (ltn rfl) (by kernel_rfl) (by kernel_rfl) (by kernel_rfl) (gives_not (want_not rfl rfl rfl rfl)) (.cons (by exact (.head _)) (.cons (by exact (.tail _ (.head _))) (.cons (by exact (.tail _ (.tail _ (.head _)))) (Sub.nil)))) rfl ?_
    refine HA.take (i := 19) rfl rfl (ltn rfl) (by kernel_rfl) (by kernel_rfl) (by kernel_rfl) (gives_of want_none (V.pickT rfl rfl)) (.cons (by exact (.head _)) (.cons (by exact (.tail _ (.head _))) (.cons (by exact (.tail _ (.tail _ (.head _)))) (Sub.nil)))) rfl ?_
    refine HA.done (by kernel_rfl) ?_
    refine HQ.keep (.cons (t := 2) rfl (.cons (t := 3) rfl (.cons (t := 4) rfl (.cons (t := 5) rfl (.cons (t := 25) rfl (.nil)))))) ?_
    refine HQ.next ?_
    refine H.condT rfl rfl ?_
    refine H.seq ?_
    refine H.region ?_
    refine HO.v (V.build ze26 pl26 rfl (.nil) (.nil)) (ltn rfl) ?_
    refine HO.store sz26 rfl rfl rfl rfl rfl (by exact .mk .here (by repeat constructor)) ?_
    refine HO.v (V.assign rfl) (ltn rfl) ?_
    refine HO.nil ?_
    refine HQ.next ?_
    refine H.ret ?_
    refine HQ.then_ret ?_
    refine HQ.end_ rfl rfl rfl rfl (.inl rfl) _ (fun a w s => resR2 Tryd.results13 s (.agg ag26 rfl (by exact .mk .here (by repeat constructor))) (.tmp rfl)) ?_
    refine ⟨_, _, .nil, ?_, rfl⟩
    unfold meltX; simp_all [noIns]
  · skip
    try simp only [decide_eq_true_eq, decide_eq_false_iff_not, Bool.not_eq_true', Bool.not_eq_false', insL] at g20
    refine HA.take (i := 15) rfl rfl (ltn rfl) (by kernel_rfl) (by kernel_rfl) (by kernel_rfl) (gives_of (want_some rfl rfl rfl rfl) (V.loadA ag26 rfl (by exact .mk (.there .here) (by repeat constructor)))) (.cons (by exact (.head _)) (.cons (by exact (.tail _ (.head _))) (.cons (by exact (.tail _ (.tail _ (.head _)))) (Sub.nil)))) rfl ?_
    refine HA.take (i := 17) rfl rfl (ltn rfl) (by kernel_rfl) (by kernel_rfl) (by kernel_rfl) (gives_of (want_some rfl rfl rfl rfl) (V.loadA ag26 rfl (by exact .mk (.there .here) (by repeat constructor)))) (.cons (by exact (.head _)) (.cons (by exact (.tail _ (.head _))) (.cons (by exact (.tail _ (.tail _ (.head _)))) (Sub.nil)))) rfl ?_
    refine HA.one (i := 16) rfl (by kernel_rfl) ?_
    refine HO.gdo rfl rfl rfl rfl ?_
    refine HO.call ca31 (.cons rfl (.nil)) (plain_w b (cok_bd (op := b.op) hb.c)) (by exact Rems.nil) (by (refine Reads.ro (.head _) ?_); exact Reads.nil) (ltn rfl) ?_
    rintro v22 L22 ⟨rfl, rfl⟩
    dsimp only [List.nil_append, List.cons_append]
    refine HO.nil ?_
    refine HQ.again (.cons (by exact (.head _)) (.cons (by exact (.tail _ (.head _))) (.cons (by exact (.tail _ (.tail _ (.head _)))) (Sub.nil)))) rfl ?_
    refine HA.take (i := 18) rfl rfl (ltn rfl) (by kernel_rfl) (by kernel_rfl) (by kernel_rfl) (gives_of (want_some rfl rfl rfl rfl) (V.neqS [_, _, _, _, _] [_, _, _, _, _] if26 rfl rfl rfl rfl)) (.cons (by exact (.head _)) (.cons (by exact (.tail _ (.head _))) (.cons (by exact (.tail _ (.tail _ (.head _)))) (Sub.nil)))) rfl ?_
    refine HA.take (i := 19) rfl rfl (ltn rfl) (by kernel_rfl) (by kernel_rfl) (by kernel_rfl) (gives_of want_none (V.pickF rfl rfl)) (.cons (by exact (.head _)) (.cons (by exact (.tail _ (.head _))) (.cons (by exact (.tail _ (.tail _ (.head _)))) (Sub.nil)))) rfl ?_
    refine HA.done (by kernel_rfl) ?_
    refine HQ.keep (.cons (t := 2) rfl (.cons (t := 3) rfl (.cons (t := 4) rfl (.cons (t := 5) rfl (.cons (t := 25) rfl (.nil)))))) ?_
    refine HQ.next ?_
    refine H.condB rfl (fun h25 => ?_) (fun h25 => ?_)
    · skip
      try simp only [decide_eq_true_eq, decide_eq_false_iff_not, Bool.not_eq_true', Bool.not_eq_false', insL] at h25
      refine H.seq ?_
      refine H.region ?_
      refine HO.v (V.build ze26 pl26 rfl (.nil) (.nil)) (ltn rfl) ?_
      refine HO.store sz26 rfl rfl rfl rfl rfl (by exact .mk .here (by repeat constructor)) ?_
      refine HO.v (V.assign rfl) (ltn rfl) ?_
      refine HO.nil ?_
      refine HQ.next ?_
      refine H.ret ?_
      refine HQ.then_ret ?_
      refine HQ.end_ rfl rfl rfl rfl (.inl rfl) _ (fun a w s => resR2 Tryd.results13 s (.agg ag26 rfl (by exact .mk .here (by repeat constructor))) (.tmp rfl)) ?_
      refine ⟨_, _, .nil, ?_, rfl⟩
      unfold meltX; simp_all [noIns]
    · skip
      try simp only [decide_eq_true_eq, decide_eq_false_iff_not, Bool.not_eq_true', Bool.not_eq_false', insL] at h25
      refine H.skip ?_
      refine HQ.next ?_
      refine H.seq ?_
      refine H.region ?_
      refine HO.v (V.loadA ag26 rfl (by exact .mk (.there (.there .here)) (by repeat constructor))) (ltn rfl) ?_
      refine HO.v (V.loadA ag26 rfl (by exact .mk (.there .here) (by repeat constructor))) (ltn rfl) ?_
      refine HO.call ca32 (.cons rfl (.cons rfl (.nil))) (melt_w a b ha hb) (by exact Rems.nil) (by (refine Reads.ro (.head _) ?_); exact Reads.nil) (ltn rfl) ?_
      rintro v29 L29 ⟨rfl, rfl⟩
      dsimp only [List.nil_append, List.cons_append]
      refine HO.v (V.extract rfl rfl) (ltn rfl) ?_
      refine HO.v (V.extract rfl rfl) (ltn rfl) ?_
      refine HO.store sz26 rfl rfl rfl rfl rfl (by exact .mk .here (by repeat constructor)) ?_
      refine HO.v (V.assign rfl) (ltn rfl) ?_
      refine HO.nil ?_
      refine HQ.keep (.cons (t := 4) rfl (.cons (t := 5) rfl (.nil))) ?_
      refine HQ.next ?_
      refine H.ret ?_
      refine HQ.end_ rfl rfl rfl rfl (.inl rfl) _ (fun a w s => resR2 Tryd.results13 s (.agg ag26 rfl (by exact .mk .here (by repeat constructor))) (.tmp rfl)) ?_
      refine ⟨_, _, .nil, ?_, rfl⟩
      unfold meltX; simp_all [noIns]

end Go.Proofs.YtmkoadgphhkfgaaDoor
