/- Walks of the law's own table: drawn instructions, plain forms, what melts. Conditions: as the theorems say. -/
import Derived.Test.YtmkoadgphhkfgaaDoorSlH
import Derived.Test.YtmkoadgphhkfgaaDoorFacts
import Derived.Test.YtmkoadgphhkfgaaDoorFoldWalks1
import Derived.Test.YtmkoadgphhkfgaaDoorPgC
set_option linter.unusedVariables false
set_option linter.unusedSimpArgs false
set_option maxRecDepth 10000
namespace Go.Proofs.YtmkoadgphhkfgaaDoor
open Go Go.RowKit Sl Pg

set_option maxRecDepth 100000

set_option maxRecDepth 10000

theorem instr13_w (x : Trn) (hx : x.Ok) :
    Tri Tryd.prog 5 #[vTr x] [] [] (fun v L' => v = vIn (instr13 x) ∧ L' = []) := by
  obtain ⟨q1, q2, q3, q4, q5⟩ := hx
  have o8 := tmod_bd q1.1 8 (by decide)
  have t3 := tmod_bd q2.1 3 (by decide)
  have a3 := tmod_bd q3.1 3 (by decide)
  have b3 := tmod_bd q4.1 3 (by decide)
  have k16 := tmod_bd q5.1 16 (by decide)
  have k5 := tmod_bd q5.1 5 (by decide)
  refine Tri.of' 60 [vTr x] [(0, vTr x)] Tryd.func5 Tryd.ntmps5 rfl rfl rfl ?_
  intro w0
  refine H.seq ?_
  refine H.region ?_
  refine HO.box rfl rfl (ltn rfl) ?_
  intro b1
  refine HO.alloc ze26 rfl (ltn rfl) ?_
  intro b2
  refine HO.nil ?_
  refine HQ.next ?_
  refine H.seq ?_
  refine H.region ?_
  refine HO.v (V.fieldAddr (fs := #[]) fa29_0 rfl) (ltn rfl) ?_
  refine HO.v (V.load sc5 rfl (by exact .mk (.there .here) rfl)) (ltn rfl) ?_
  refine HO.v (V.rem rfl rfl (by omega)) (ltn rfl) ?_
  refine HO.v (V.convI64 Tryd.underlying5 Tryd.underlying3 rfl (by omega)) (ltn rfl) ?_
  refine HO.v (V.add rfl rfl (by omega)) (ltn rfl) ?_
  refine HO.v (V.fieldAddr (fs := #[]) fa29_1 rfl) (ltn rfl) ?_
  refine HO.v (V.load sc5 rfl (by exact .mk (.there .here) rfl)) (ltn rfl) ?_
  refine HO.v (V.rem rfl rfl (by omega)) (ltn rfl) ?_
  refine HO.v (V.convI64 Tryd.underlying5 Tryd.underlying3 rfl (by omega)) (ltn rfl) ?_
  refine HO.v (V.fieldAddr (fs := #[]) fa29_2 rfl) (ltn rfl) ?_
  refine HO.v (V.load sc5 rfl (by exact .mk (.there .here) rfl)) (ltn rfl) ?_
  refine HO.v (V.rem rfl rfl (by omega)) (ltn rfl) ?_
  refine HO.v (V.convI64 Tryd.underlying5 Tryd.underlying3 rfl (by omega)) (ltn rfl) ?_
  refine HO.v (V.build ze26 pl26 rfl (.cons rfl (.cons rfl (.cons rfl (.nil)))) (.cons rfl rfl rfl (by repeat constructor) (.cons rfl rfl rfl (by repeat constructor) (.cons rfl rfl rfl (by repeat constructor) (.nil))))) (ltn rfl) ?_
  refine HO.alloc ze26 rfl (ltn rfl) ?_
  intro b3
  refine HO.store sz26 rfl rfl rfl rfl rfl (by exact .mk .here (by repeat constructor)) ?_
  refine HO.nil ?_
  refine HQ.keep (.cons (t := 1) rfl (.cons (t := 2) rfl (.cons (t := 3) rfl (.nil)))) ?_
  refine HQ.next ?_
  refine H.seq ?_
  refine H.block ?_
  refine H.seq ?_
  refine H.region ?_
  refine HO.v (V.fieldAddr (fs := #[]) fa26_0 rfl) (ltn rfl) ?_
  refine HO.v (V.load sc3 rfl (by exact .mk .here rfl)) (ltn rfl) ?_
  refine HO.v (V.eqlI rfl rfl) (ltn rfl) ?_
  refine HO.v (V.move rfl) (ltn rfl) ?_
  refine HO.part (t := 22) rfl (fun g22 => ?_) (fun g22 => ?_)
  · skip
    try simp only [decide_eq_true_eq, decide_eq_false_iff_not, Bool.not_eq_true', Bool.not_eq_false'] at g22
    refine HO.gskip rfl rfl rfl rfl (ltn rfl) ?_
    refine HO.gskip rfl rfl rfl rfl (ltn rfl) ?_
    refine HO.gskip rfl rfl rfl rfl (ltn rfl) ?_
    refine HO.v (V.pickT rfl rfl) (ltn rfl) ?_
    refine HO.v (V.assign rfl) (ltn rfl) ?_
    refine HO.nil ?_
    refine HQ.keep (.cons (t := 1) rfl (.cons (t := 2) rfl (.cons (t := 3) rfl (.cons (t := 18) rfl (.nil))))) ?_
    refine HQ.next ?_
    refine H.condT rfl rfl ?_
    refine H.region ?_
    refine HO.v (V.fieldAddr (fs := #[]) fa29_3 rfl) (ltn rfl) ?_
    refine HO.v (V.load sc5 rfl (by exact .mk (.there (.there .here)) rfl)) (ltn rfl) ?_
    refine HO.v (V.rem rfl rfl (by omega)) (ltn rfl) ?_
    refine HO.v (V.convI64 Tryd.underlying5 Tryd.underlying3 rfl (by omega)) (ltn rfl) ?_
    refine HO.v (V.fieldAddr (fs := #[]) fa26_3 rfl) (ltn rfl) ?_
    refine HO.store sz3 rfl rfl rfl rfl rfl (by exact .mk .here (by repeat constructor)) ?_
    refine HO.nil ?_
    refine HQ.block_normal ?_
    refine HQ.keep (.cons (t := 2) rfl (.cons (t := 3) rfl (.nil))) ?_
    refine HQ.next ?_
    refine H.seq ?_
    refine H.region ?_
    refine HO.v (V.loadA ag26 rfl (by exact .mk .here (by repeat constructor))) (ltn rfl) ?_
    refine HO.store sz26 rfl rfl rfl rfl rfl (by exact .mk (.there .here) (by repeat constructor)) ?_
    refine HO.nil ?_
    refine HQ.next ?_
    refine H.ret ?_
    refine HQ.end_ rfl rfl rfl rfl (.inl rfl) _ (fun a w s => resR1 Tryd.results5 s (.agg ag26 rfl (by exact .mk .here (by repeat constructor)))) ?_
    refine ⟨_, _, .nil, ?_, rfl⟩
    unfold instr13 b13 c13
    repeat (first | rw [if_pos (by simp only [op13]; omega)] | rw [if_neg (by simp only [op13]; omega)])
    first | done | rfl
  · skip
    try simp only [decide_eq_true_eq, decide_eq_false_iff_not, Bool.not_eq_true', Bool.not_eq_false'] at g22
    refine HO.gdo rfl rfl rfl rfl ?_
    refine HO.v (V.fieldAddr (fs := #[]) fa26_0 rfl) (ltn rfl) ?_
    refine HO.gdo rfl rfl rfl rfl ?_
    refine HO.v (V.load sc3 rfl (by exact .mk .here rfl)) (ltn rfl) ?_
    refine HO.gdo rfl rfl rfl rfl ?_
    refine HO.v (V.eqlI rfl rfl) (ltn rfl) ?_
    refine HO.v (V.pickF rfl rfl) (ltn rfl) ?_
    refine HO.v (V.assign rfl) (ltn rfl) ?_
    refine HO.nil ?_
    refine HQ.keep (.cons (t := 1) rfl (.cons (t := 2) rfl (.cons (t := 3) rfl (.cons (t := 18) rfl (.nil))))) ?_
    refine HQ.next ?_
    refine H.condB rfl (fun h18 => ?_) (fun h18 => ?_)
    · skip
      try simp only [decide_eq_true_eq, decide_eq_false_iff_not, Bool.not_eq_true', Bool.not_eq_false'] at h18
      refine H.region ?_
      refine HO.v (V.fieldAddr (fs := #[]) fa29_3 rfl) (ltn rfl) ?_
      refine HO.v (V.load sc5 rfl (by exact .mk (.there (.there .here)) rfl)) (ltn rfl) ?_
      refine HO.v (V.rem rfl rfl (by omega)) (ltn rfl) ?_
      refine HO.v (V.convI64 Tryd.underlying5 Tryd.underlying3 rfl (by omega)) (ltn rfl) ?_
      refine HO.v (V.fieldAddr (fs := #[]) fa26_3 rfl) (ltn rfl) ?_
      refine HO.store sz3 rfl rfl rfl rfl rfl (by exact .mk .here (by repeat constructor)) ?_
      refine HO.nil ?_
      refine HQ.block_normal ?_
      refine HQ.keep (.cons (t := 2) rfl (.cons (t := 3) rfl (.nil))) ?_
      refine HQ.next ?_
      refine H.seq ?_
      refine H.region ?_
      refine HO.v (V.loadA ag26 rfl (by exact .mk .here (by repeat constructor))) (ltn rfl) ?_
      refine HO.store sz26 rfl rfl rfl rfl rfl (by exact .mk (.there .here) (by repeat constructor)) ?_
      refine HO.nil ?_
      refine HQ.next ?_
      refine H.ret ?_
      refine HQ.end_ rfl rfl rfl rfl (.inl rfl) _ (fun a w s => resR1 Tryd.results5 s (.agg ag26 rfl (by exact .mk .here (by repeat constructor)))) ?_
      refine ⟨_, _, .nil, ?_, rfl⟩
      unfold instr13 b13 c13
      repeat (first | rw [if_pos (by simp only [op13]; omega)] | rw [if_neg (by simp only [op13]; omega)])
      first | done | rfl
    · skip
      try simp only [decide_eq_true_eq, decide_eq_false_iff_not, Bool.not_eq_true', Bool.not_eq_false'] at h18
      refine H.seq ?_
      refine H.region ?_
      refine HO.v (V.fieldAddr (fs := #[]) fa26_0 rfl) (ltn rfl) ?_
      refine HO.v (V.load sc3 rfl (by exact .mk .here rfl)) (ltn rfl) ?_
      refine HO.v (V.eqlI rfl rfl) (ltn rfl) ?_
      refine HO.v (V.move rfl) (ltn rfl) ?_
      refine HO.part (t := 36) rfl (fun g36 => ?_) (fun g36 => ?_)
      · skip
        try simp only [decide_eq_true_eq, decide_eq_false_iff_not, Bool.not_eq_true', Bool.not_eq_false'] at g36
        refine HO.gskip rfl rfl rfl rfl (ltn rfl) ?_
        refine HO.gskip rfl rfl rfl rfl (ltn rfl) ?_
        refine HO.gskip rfl rfl rfl rfl (ltn rfl) ?_
        refine HO.v (V.pickT rfl rfl) (ltn rfl) ?_
        refine HO.v (V.assign rfl) (ltn rfl) ?_
        refine HO.nil ?_
        refine HQ.keep (.cons (t := 1) rfl (.cons (t := 2) rfl (.cons (t := 3) rfl (.cons (t := 32) rfl (.nil))))) ?_
        refine HQ.next ?_
        refine H.condT rfl rfl ?_
        refine H.region ?_
        refine HO.buildRow (encI .i64) (tab16) Tryd.underlying30 ze3 (.cons rfl (.cons rfl (.cons rfl (.cons rfl (.cons rfl (.cons rfl (.cons rfl (.cons rfl (.cons rfl (.cons rfl (.cons rfl (.cons rfl (.cons rfl (.cons rfl (.cons rfl (.cons rfl (.nil))))))))))))))))) (.cons rfl (.cons rfl (.cons rfl (.cons rfl (.cons rfl (.cons rfl (.cons rfl (.cons rfl (.cons rfl (.cons rfl (.cons rfl (.cons rfl (.cons rfl (.cons rfl (.cons rfl (.cons rfl (.nil))))))))))))))))) (Nat.le_of_ble_eq_true rfl) (Nat.le_of_ble_eq_true rfl) (ltn rfl) ?_
        intro b41
        refine HO.v (V.fieldAddr (fs := #[]) fa29_4 rfl) (ltn rfl) ?_
        refine HO.v (V.load sc5 rfl (by exact .mk (.there (.there (.there .here))) rfl)) (ltn rfl) ?_
        refine HO.v (V.rem rfl rfl (by omega)) (ltn rfl) ?_
        refine HO.v (V.indexAddr (N := (encI .i64)) (ys := _) Tryd.underlying30 sz3 rfl rfl (by first | omega | (simp [tab16]; omega)) (by first | omega | (simp [tab16]; omega)) (by exact Has.own .here)) (ltn rfl) ?_
        refine HO.v (V.loadE (N := (encI .i64)) sc3 rfl (by exact .mk (Has.own .here) (tab16_at k16) rfl)) (ltn rfl) ?_
        refine HO.v (V.fieldAddr (fs := #[]) fa26_4 rfl) (ltn rfl) ?_
        refine HO.store sz3 rfl rfl rfl rfl rfl (by exact .mk (.there .here) (by repeat constructor)) ?_
        refine HO.nil ?_
        refine HQ.block_normal ?_
        refine HQ.keep (.cons (t := 2) rfl (.cons (t := 3) rfl (.nil))) ?_
        refine HQ.next ?_
        refine H.seq ?_
        refine H.region ?_
        refine HO.v (V.loadA ag26 rfl (by exact .mk .here (by repeat constructor))) (ltn rfl) ?_
        refine HO.store sz26 rfl rfl rfl rfl rfl (by exact .mk (.there (.there .here)) (by repeat constructor)) ?_
        refine HO.nil ?_
        refine HQ.next ?_
        refine H.ret ?_
        refine HQ.end_ rfl rfl rfl rfl (.inl rfl) _ (fun a w s => resR1 Tryd.results5 s (.agg ag26 rfl (by exact .mk .here (by repeat constructor)))) ?_
        refine ⟨_, _, .nil, ?_, rfl⟩
        unfold instr13 b13 c13
        repeat (first | rw [if_pos (by simp only [op13]; omega)] | rw [if_neg (by simp only [op13]; omega)])
        first | done | rfl
      · skip
        try simp only [decide_eq_true_eq, decide_eq_false_iff_not, Bool.not_eq_true', Bool.not_eq_false'] at g36
        refine HO.gdo rfl rfl rfl rfl ?_
        refine HO.v (V.fieldAddr (fs := #[]) fa26_0 rfl) (ltn rfl) ?_
        refine HO.gdo rfl rfl rfl rfl ?_
        refine HO.v (V.load sc3 rfl (by exact .mk .here rfl)) (ltn rfl) ?_
        refine HO.gdo rfl rfl rfl rfl ?_
        refine HO.v (V.eqlI rfl rfl) (ltn rfl) ?_
        refine HO.v (V.pickF rfl rfl) (ltn rfl) ?_
        refine HO.v (V.assign rfl) (ltn rfl) ?_
        refine HO.nil ?_
        refine HQ.keep (.cons (t := 1) rfl (.cons (t := 2) rfl (.cons (t := 3) rfl (.cons (t := 32) rfl (.nil))))) ?_
        refine HQ.next ?_
        refine H.condB rfl (fun h32 => ?_) (fun h32 => ?_)
        · skip
          try simp only [decide_eq_true_eq, decide_eq_false_iff_not, Bool.not_eq_true', Bool.not_eq_false'] at h32
          refine H.region ?_
          refine HO.buildRow (encI .i64) (tab16) Tryd.underlying30 ze3 (.cons rfl (.cons rfl (.cons rfl (.cons rfl (.cons rfl (.cons rfl (.cons rfl (.cons rfl (.cons rfl (.cons rfl (.cons rfl (.cons rfl (.cons rfl (.cons rfl (.cons rfl (.cons rfl (.nil))))))))))))))))) (.cons rfl (.cons rfl (.cons rfl (.cons rfl (.cons rfl (.cons rfl (.cons rfl (.cons rfl (.cons rfl (.cons rfl (.cons rfl (.cons rfl (.cons rfl (.cons rfl (.cons rfl (.cons rfl (.nil))))))))))))))))) (Nat.le_of_ble_eq_true rfl) (Nat.le_of_ble_eq_true rfl) (ltn rfl) ?_
          intro b41
          refine HO.v (V.fieldAddr (fs := #[]) fa29_4 rfl) (ltn rfl) ?_
          refine HO.v (V.load sc5 rfl (by exact .mk (.there (.there (.there .here))) rfl)) (ltn rfl) ?_
          refine HO.v (V.rem rfl rfl (by omega)) (ltn rfl) ?_
          refine HO.v (V.indexAddr (N := (encI .i64)) (ys := _) Tryd.underlying30 sz3 rfl rfl (by first | omega | (simp [tab16]; omega)) (by first | omega | (simp [tab16]; omega)) (by exact Has.own .here)) (ltn rfl) ?_
          refine HO.v (V.loadE (N := (encI .i64)) sc3 rfl (by exact .mk (Has.own .here) (tab16_at k16) rfl)) (ltn rfl) ?_
          refine HO.v (V.fieldAddr (fs := #[]) fa26_4 rfl) (ltn rfl) ?_
          refine HO.store sz3 rfl rfl rfl rfl rfl (by exact .mk (.there .here) (by repeat constructor)) ?_
          refine HO.nil ?_
          refine HQ.block_normal ?_
          refine HQ.keep (.cons (t := 2) rfl (.cons (t := 3) rfl (.nil))) ?_
          refine HQ.next ?_
          refine H.seq ?_
          refine H.region ?_
          refine HO.v (V.loadA ag26 rfl (by exact .mk .here (by repeat constructor))) (ltn rfl) ?_
          refine HO.store sz26 rfl rfl rfl rfl rfl (by exact .mk (.there (.there .here)) (by repeat constructor)) ?_
          refine HO.nil ?_
          refine HQ.next ?_
          refine H.ret ?_
          refine HQ.end_ rfl rfl rfl rfl (.inl rfl) _ (fun a w s => resR1 Tryd.results5 s (.agg ag26 rfl (by exact .mk .here (by repeat constructor)))) ?_
          refine ⟨_, _, .nil, ?_, rfl⟩
          unfold instr13 b13 c13
          repeat (first | rw [if_pos (by simp only [op13]; omega)] | rw [if_neg (by simp only [op13]; omega)])
          first | done | rfl
        · skip
          try simp only [decide_eq_true_eq, decide_eq_false_iff_not, Bool.not_eq_true', Bool.not_eq_false'] at h32
          refine H.seq ?_
          refine H.region ?_
          refine HO.v (V.fieldAddr (fs := #[]) fa26_0 rfl) (ltn rfl) ?_
          refine HO.v (V.load sc3 rfl (by exact .mk .here rfl)) (ltn rfl) ?_
          refine HO.v (V.gtr rfl rfl) (ltn rfl) ?_
          refine HO.v (V.assign rfl) (ltn rfl) ?_
          refine HO.nil ?_
          refine HQ.keep (.cons (t := 1) rfl (.cons (t := 2) rfl (.cons (t := 3) rfl (.cons (t := 48) rfl (.nil))))) ?_
          refine HQ.next ?_
          refine H.condB rfl (fun h48 => ?_) (fun h48 => ?_)
          · skip
            try simp only [decide_eq_true_eq, decide_eq_false_iff_not, Bool.not_eq_true', Bool.not_eq_false'] at h48
            refine H.region ?_
            refine HO.buildRow (encI .i64) (tab5) Tryd.underlying30 ze3 (.cons rfl (.cons rfl (.cons rfl (.cons rfl (.cons rfl (.nil)))))) (.cons rfl (.cons rfl (.cons rfl (.cons rfl (.cons rfl (.nil)))))) (Nat.le_of_ble_eq_true rfl) (Nat.le_of_ble_eq_true rfl) (ltn rfl) ?_
            intro b52
            refine HO.v (V.fieldAddr (fs := #[]) fa29_4 rfl) (ltn rfl) ?_
            refine HO.v (V.load sc5 rfl (by exact .mk (.there (.there (.there .here))) rfl)) (ltn rfl) ?_
            refine HO.v (V.rem rfl rfl (by omega)) (ltn rfl) ?_
            refine HO.v (V.indexAddr (N := (encI .i64)) (ys := _) Tryd.underlying30 sz3 rfl rfl (by first | omega | (simp [tab5]; omega)) (by first | omega | (simp [tab5]; omega)) (by exact Has.own .here)) (ltn rfl) ?_
            refine HO.v (V.loadE (N := (encI .i64)) sc3 rfl (by exact .mk (Has.own .here) (tab5_at k5) rfl)) (ltn rfl) ?_
            refine HO.v (V.fieldAddr (fs := #[]) fa26_4 rfl) (ltn rfl) ?_
            refine HO.store sz3 rfl rfl rfl rfl rfl (by exact .mk (.there .here) (by repeat constructor)) ?_
            refine HO.nil ?_
            refine HQ.block_normal ?_
            refine HQ.keep (.cons (t := 2) rfl (.cons (t := 3) rfl (.nil))) ?_
            refine HQ.next ?_
            refine H.seq ?_
            refine H.region ?_
            refine HO.v (V.loadA ag26 rfl (by exact .mk .here (by repeat constructor))) (ltn rfl) ?_
            refine HO.store sz26 rfl rfl rfl rfl rfl (by exact .mk (.there (.there .here)) (by repeat constructor)) ?_
            refine HO.nil ?_
            refine HQ.next ?_
            refine H.ret ?_
            refine HQ.end_ rfl rfl rfl rfl (.inl rfl) _ (fun a w s => resR1 Tryd.results5 s (.agg ag26 rfl (by exact .mk .here (by repeat constructor)))) ?_
            refine ⟨_, _, .nil, ?_, rfl⟩
            unfold instr13 b13 c13
            repeat (first | rw [if_pos (by simp only [op13]; omega)] | rw [if_neg (by simp only [op13]; omega)])
            first | done | rfl
          · skip
            try simp only [decide_eq_true_eq, decide_eq_false_iff_not, Bool.not_eq_true', Bool.not_eq_false'] at h48
            refine H.skip ?_
            refine HQ.block_normal ?_
            refine HQ.next ?_
            refine H.seq ?_
            refine H.region ?_
            refine HO.v (V.loadA ag26 rfl (by exact .mk .here (by repeat constructor))) (ltn rfl) ?_
            refine HO.store sz26 rfl rfl rfl rfl rfl (by exact .mk (.there .here) (by repeat constructor)) ?_
            refine HO.nil ?_
            refine HQ.next ?_
            refine H.ret ?_
            refine HQ.end_ rfl rfl rfl rfl (.inl rfl) _ (fun a w s => resR1 Tryd.results5 s (.agg ag26 rfl (by exact .mk .here (by repeat constructor)))) ?_
            refine ⟨_, _, .nil, ?_, rfl⟩
            unfold instr13 b13 c13
            repeat (first | rw [if_pos (by simp only [op13]; omega)] | rw [if_neg (by simp only [op13]; omega)])
            first | done | rfl
theorem scaled13_w (to a n d : Int) (hn : -1000000 ≤ n ∧ n ≤ 1000000) (hd : -1000000 ≤ d ∧ d ≤ 1000000) (hn0 : n ≠ 0) (hd0 : d ≠ 0) :
    Tri Tryd.prog 33 #[.int .i64 to, .int .i64 a, .int .i64 n, .int .i64 d] [] [] (fun v L' => v = .tuple #[vIn (scaled to a n d).1, .bool (scaled to a n d).2] ∧ L' = []) := by
  have q1 := tdivL_bd d hn
  have q2 := tdivL_bd n hd
  refine Tri.of' 49 [.int .i64 to, .int .i64 a, .int .i64 n, .int .i64 d] [(0, .int .i64 to), (1, .int .i64 a), (2, .int .i64 n), (3, .int .i64 d)] Tryd.func33 Tryd.ntmps33 rfl rfl rfl ?_
  intro w0
  refine H.seq ?_
  refine H.region ?_
  refine HO.alloc ze26 rfl (ltn rfl) ?_
  intro b8
  refine HO.v (V.assign rfl) (ltn rfl) ?_
  refine HO.nil ?_
  refine HQ.next ?_
  refine H.seq ?_
  refine H.block ?_
  refine H.seq ?_
  refine H.region ?_
  refine HO.v (V.move rfl) (ltn rfl) ?_
  refine HO.v (V.move rfl) (ltn rfl) ?_
  refine HO.v (V.rem rfl rfl (by exact hd0)) (ltn rfl) ?_
  refine HO.v (V.eqlI rfl rfl) (ltn rfl) ?_
  refine HO.v (V.assign rfl) (ltn rfl) ?_
  refine HO.nil ?_
  refine HQ.keep (.cons (t := 0) rfl (.cons (t := 1) rfl (.cons (t := 2) rfl (.cons (t := 3) rfl (.cons (t := 8) rfl (.cons (t := 9) rfl (.cons (t := 10) rfl (.nil)))))))) ?_
  refine HQ.next ?_
  refine H.condB rfl (fun h10 => ?_) (fun h10 => ?_)
  · skip
    try simp only [decide_eq_true_eq, decide_eq_false_iff_not, Bool.not_eq_true', Bool.not_eq_false'] at h10
    refine H.seq ?_
    refine H.region ?_
    refine HO.v (V.move rfl) (ltn rfl) ?_
    refine HO.v (V.move rfl) (ltn rfl) ?_
    refine HO.v (V.quo rfl rfl (by exact hd0) (by omega)) (ltn rfl) ?_
    refine HO.v (V.assign rfl) (ltn rfl) ?_
    refine HO.nil ?_
    refine HQ.keep (.cons (t := 0) rfl (.cons (t := 1) rfl (.cons (t := 2) rfl (.cons (t := 8) rfl (.cons (t := 9) rfl (.nil)))))) ?_
    refine HQ.next ?_
    refine H.seq ?_
    refine H.seq ?_
    refine H.region ?_
    refine HO.v (V.move rfl) (ltn rfl) ?_
    refine HO.v (V.lss rfl rfl) (ltn rfl) ?_
    refine HO.v (V.move rfl) (ltn rfl) ?_
    refine HO.part (t := 20) rfl (fun g20 => ?_) (fun g20 => ?_)
    · skip
      try simp only [decide_eq_true_eq, decide_eq_false_iff_not, Bool.not_eq_true', Bool.not_eq_false'] at g20
      refine HO.gskip rfl rfl rfl rfl (ltn rfl) ?_
      refine HO.gskip rfl rfl rfl rfl (ltn rfl) ?_
      refine HO.v (V.pickT rfl rfl) (ltn rfl) ?_
      refine HO.nil ?_
      refine HQ.keep (.cons (t := 0) rfl (.cons (t := 1) rfl (.cons (t := 2) rfl (.cons (t := 8) rfl (.cons (t := 9) rfl (.cons (t := 23) rfl (.nil))))))) ?_
      refine HQ.next ?_
      refine H.condT rfl rfl ?_
      refine H.seq ?_
      refine H.region ?_
      refine HO.v (V.build ze26 pl26 rfl (.nil) (.nil)) (ltn rfl) ?_
      refine HO.store sz26 rfl rfl rfl rfl rfl (by exact .mk .here (by repeat constructor)) ?_
      refine HO.v (V.assign rfl) (ltn rfl) ?_
      refine HO.nil ?_
      refine HQ.keep (.cons (t := 0) rfl (.cons (t := 1) rfl (.cons (t := 2) rfl (.cons (t := 8) rfl (.cons (t := 9) rfl (.nil)))))) ?_
      refine HQ.next ?_
      refine H.ret ?_
      refine HQ.then_ret ?_
      refine HQ.block_ret ?_
      refine HQ.then_ret ?_
      refine HQ.end_ rfl rfl rfl rfl (.inl rfl) _ (fun a w s => resR2 Tryd.results33 s (.agg ag26 rfl (by exact .mk .here (by repeat constructor))) (.tmp rfl)) ?_
      refine ⟨_, _, .nil, ?_, rfl⟩
      unfold scaled
      repeat (first | rw [if_pos (by assumption)] | rw [if_neg (by assumption)] | rw [if_pos ((fits_iff _).2 (by omega))] | rw [if_neg (fun h => by have := (fits_iff _).1 h; omega)])
      first | done | rfl
    · skip
      try simp only [decide_eq_true_eq, decide_eq_false_iff_not, Bool.not_eq_true', Bool.not_eq_false'] at g20
      refine HO.gdo rfl rfl rfl rfl ?_
      refine HO.v (V.move rfl) (ltn rfl) ?_
      refine HO.gdo rfl rfl rfl rfl ?_
      refine HO.v (V.gtr rfl rfl) (ltn rfl) ?_
      refine HO.v (V.pickF rfl rfl) (ltn rfl) ?_
      refine HO.nil ?_
      refine HQ.keep (.cons (t := 0) rfl (.cons (t := 1) rfl (.cons (t := 2) rfl (.cons (t := 8) rfl (.cons (t := 9) rfl (.cons (t := 23) rfl (.nil))))))) ?_
      refine HQ.next ?_
      refine H.condB rfl (fun h23 => ?_) (fun h23 => ?_)
      · skip
        try simp only [decide_eq_true_eq, decide_eq_false_iff_not, Bool.not_eq_true', Bool.not_eq_false'] at h23
        refine H.seq ?_
        refine H.region ?_
        refine HO.v (V.build ze26 pl26 rfl (.nil) (.nil)) (ltn rfl) ?_
        refine HO.store sz26 rfl rfl rfl rfl rfl (by exact .mk .here (by repeat constructor)) ?_
        refine HO.v (V.assign rfl) (ltn rfl) ?_
        refine HO.nil ?_
        refine HQ.keep (.cons (t := 0) rfl (.cons (t := 1) rfl (.cons (t := 2) rfl (.cons (t := 8) rfl (.cons (t := 9) rfl (.nil)))))) ?_
        refine HQ.next ?_
        refine H.ret ?_
        refine HQ.then_ret ?_
        refine HQ.block_ret ?_
        refine HQ.then_ret ?_
        refine HQ.end_ rfl rfl rfl rfl (.inl rfl) _ (fun a w s => resR2 Tryd.results33 s (.agg ag26 rfl (by exact .mk .here (by repeat constructor))) (.tmp rfl)) ?_
        refine ⟨_, _, .nil, ?_, rfl⟩
        unfold scaled
        repeat (first | rw [if_pos (by assumption)] | rw [if_neg (by assumption)] | rw [if_pos ((fits_iff _).2 (by omega))] | rw [if_neg (fun h => by have := (fits_iff _).1 h; omega)])
        first | done | rfl
      · skip
        try simp only [decide_eq_true_eq, decide_eq_false_iff_not, Bool.not_eq_true', Bool.not_eq_false'] at h23
        refine H.skip ?_
        refine HQ.next ?_
        refine H.seq ?_
        refine H.region ?_
        refine HO.v (V.move rfl) (ltn rfl) ?_
        refine HO.v (V.move rfl) (ltn rfl) ?_
        refine HO.v (V.move rfl) (ltn rfl) ?_
        refine HO.v (V.build ze26 pl26 rfl (.cons rfl (.cons rfl (.cons rfl (.cons rfl (.nil))))) (.cons rfl rfl rfl (by repeat constructor) (.cons rfl rfl rfl (by repeat constructor) (.cons rfl rfl rfl (by repeat constructor) (.cons rfl rfl rfl (by repeat constructor) (.nil)))))) (ltn rfl) ?_
        refine HO.store sz26 rfl rfl rfl rfl rfl (by exact .mk .here (by repeat constructor)) ?_
        refine HO.v (V.assign rfl) (ltn rfl) ?_
        refine HO.nil ?_
        refine HQ.keep (.cons (t := 8) rfl (.cons (t := 9) rfl (.nil))) ?_
        refine HQ.next ?_
        refine H.ret ?_
        refine HQ.block_ret ?_
        refine HQ.then_ret ?_
        refine HQ.end_ rfl rfl rfl rfl (.inl rfl) _ (fun a w s => resR2 Tryd.results33 s (.agg ag26 rfl (by exact .mk .here (by repeat constructor))) (.tmp rfl)) ?_
        refine ⟨_, _, .nil, ?_, rfl⟩
        unfold scaled
        repeat (first | rw [if_pos (by assumption)] | rw [if_neg (by assumption)] | rw [if_pos ((fits_iff _).2 (by omega))] | rw [if_neg (fun h => by have := (fits_iff _).1 h; omega)])
        first | done | rfl
  · skip
    try simp only [decide_eq_true_eq, decide_eq_false_iff_not, Bool.not_eq_true', Bool.not_eq_false'] at h10
    refine H.seq ?_
    refine H.region ?_
    refine HO.v (V.move rfl) (ltn rfl) ?_
    refine HO.v (V.move rfl) (ltn rfl) ?_
    refine HO.v (V.rem rfl rfl (by exact hn0)) (ltn rfl) ?_
    refine HO.v (V.eqlI rfl rfl) (ltn rfl) ?_
    refine HO.v (V.assign rfl) (ltn rfl) ?_
    refine HO.nil ?_
    refine HQ.keep (.cons (t := 0) rfl (.cons (t := 1) rfl (.cons (t := 2) rfl (.cons (t := 3) rfl (.cons (t := 8) rfl (.cons (t := 9) rfl (.cons (t := 29) rfl (.nil)))))))) ?_
    refine HQ.next ?_
    refine H.condB rfl (fun h29 => ?_) (fun h29 => ?_)
    · skip
      try simp only [decide_eq_true_eq, decide_eq_false_iff_not, Bool.not_eq_true', Bool.not_eq_false'] at h29
      refine H.seq ?_
      refine H.region ?_
      refine HO.v (V.move rfl) (ltn rfl) ?_
      refine HO.v (V.move rfl) (ltn rfl) ?_
      refine HO.v (V.quo rfl rfl (by exact hn0) (by omega)) (ltn rfl) ?_
      refine HO.v (V.assign rfl) (ltn rfl) ?_
      refine HO.nil ?_
      refine HQ.keep (.cons (t := 0) rfl (.cons (t := 1) rfl (.cons (t := 3) rfl (.cons (t := 8) rfl (.cons (t := 9) rfl (.nil)))))) ?_
      refine HQ.next ?_
      refine H.seq ?_
      refine H.seq ?_
      refine H.region ?_
      refine HO.v (V.move rfl) (ltn rfl) ?_
      refine HO.v (V.lss rfl rfl) (ltn rfl) ?_
      refine HO.v (V.move rfl) (ltn rfl) ?_
      refine HO.part (t := 39) rfl (fun g39 => ?_) (fun g39 => ?_)
      · skip
        try simp only [decide_eq_true_eq, decide_eq_false_iff_not, Bool.not_eq_true', Bool.not_eq_false'] at g39
        refine HO.gskip rfl rfl rfl rfl (ltn rfl) ?_
        refine HO.gskip rfl rfl rfl rfl (ltn rfl) ?_
        refine HO.v (V.pickT rfl rfl) (ltn rfl) ?_
        refine HO.nil ?_
        refine HQ.keep (.cons (t := 0) rfl (.cons (t := 1) rfl (.cons (t := 3) rfl (.cons (t := 8) rfl (.cons (t := 9) rfl (.cons (t := 42) rfl (.nil))))))) ?_
        refine HQ.next ?_
        refine H.condT rfl rfl ?_
        refine H.seq ?_
        refine H.region ?_
        refine HO.v (V.build ze26 pl26 rfl (.nil) (.nil)) (ltn rfl) ?_
        refine HO.store sz26 rfl rfl rfl rfl rfl (by exact .mk .here (by repeat constructor)) ?_
        refine HO.v (V.assign rfl) (ltn rfl) ?_
        refine HO.nil ?_
        refine HQ.keep (.cons (t := 0) rfl (.cons (t := 1) rfl (.cons (t := 3) rfl (.cons (t := 8) rfl (.cons (t := 9) rfl (.nil)))))) ?_
        refine HQ.next ?_
        refine H.ret ?_
        refine HQ.then_ret ?_
        refine HQ.block_ret ?_
        refine HQ.then_ret ?_
        refine HQ.end_ rfl rfl rfl rfl (.inl rfl) _ (fun a w s => resR2 Tryd.results33 s (.agg ag26 rfl (by exact .mk .here (by repeat constructor))) (.tmp rfl)) ?_
        refine ⟨_, _, .nil, ?_, rfl⟩
        unfold scaled
        repeat (first | rw [if_pos (by assumption)] | rw [if_neg (by assumption)] | rw [if_pos ((fits_iff _).2 (by omega))] | rw [if_neg (fun h => by have := (fits_iff _).1 h; omega)])
        first | done | rfl
      · skip
        try simp only [decide_eq_true_eq, decide_eq_false_iff_not, Bool.not_eq_true', Bool.not_eq_false'] at g39
        refine HO.gdo rfl rfl rfl rfl ?_
        refine HO.v (V.move rfl) (ltn rfl) ?_
        refine HO.gdo rfl rfl rfl rfl ?_
        refine HO.v (V.gtr rfl rfl) (ltn rfl) ?_
        refine HO.v (V.pickF rfl rfl) (ltn rfl) ?_
        refine HO.nil ?_
        refine HQ.keep (.cons (t := 0) rfl (.cons (t := 1) rfl (.cons (t := 3) rfl (.cons (t := 8) rfl (.cons (t := 9) rfl (.cons (t := 42) rfl (.nil))))))) ?_
        refine HQ.next ?_
        refine H.condB rfl (fun h42 => ?_) (fun h42 => ?_)
        · skip
          try simp only [decide_eq_true_eq, decide_eq_false_iff_not, Bool.not_eq_true', Bool.not_eq_false'] at h42
          refine H.seq ?_
          refine H.region ?_
          refine HO.v (V.build ze26 pl26 rfl (.nil) (.nil)) (ltn rfl) ?_
          refine HO.store sz26 rfl rfl rfl rfl rfl (by exact .mk .here (by repeat constructor)) ?_
          refine HO.v (V.assign rfl) (ltn rfl) ?_
          refine HO.nil ?_
          refine HQ.keep (.cons (t := 0) rfl (.cons (t := 1) rfl (.cons (t := 3) rfl (.cons (t := 8) rfl (.cons (t := 9) rfl (.nil)))))) ?_
          refine HQ.next ?_
          refine H.ret ?_
          refine HQ.then_ret ?_
          refine HQ.block_ret ?_
          refine HQ.then_ret ?_
          refine HQ.end_ rfl rfl rfl rfl (.inl rfl) _ (fun a w s => resR2 Tryd.results33 s (.agg ag26 rfl (by exact .mk .here (by repeat constructor))) (.tmp rfl)) ?_
          refine ⟨_, _, .nil, ?_, rfl⟩
          unfold scaled
          repeat (first | rw [if_pos (by assumption)] | rw [if_neg (by assumption)] | rw [if_pos ((fits_iff _).2 (by omega))] | rw [if_neg (fun h => by have := (fits_iff _).1 h; omega)])
          first | done | rfl
        · skip
          try simp only [decide_eq_true_eq, decide_eq_false_iff_not, Bool.not_eq_true', Bool.not_eq_false'] at h42
          refine H.skip ?_
          refine HQ.next ?_
          refine H.seq ?_
          refine H.region ?_
          refine HO.v (V.move rfl) (ltn rfl) ?_
          refine HO.v (V.move rfl) (ltn rfl) ?_
          refine HO.v (V.move rfl) (ltn rfl) ?_
          refine HO.v (V.build ze26 pl26 rfl (.cons rfl (.cons rfl (.cons rfl (.cons rfl (.nil))))) (.cons rfl rfl rfl (by repeat constructor) (.cons rfl rfl rfl (by repeat constructor) (.cons rfl rfl rfl (by repeat constructor) (.cons rfl rfl rfl (by repeat constructor) (.nil)))))) (ltn rfl) ?_
          refine HO.store sz26 rfl rfl rfl rfl rfl (by exact .mk .here (by repeat constructor)) ?_
          refine HO.v (V.assign rfl) (ltn rfl) ?_
          refine HO.nil ?_
          refine HQ.keep (.cons (t := 8) rfl (.cons (t := 9) rfl (.nil))) ?_
          refine HQ.next ?_
          refine H.ret ?_
          refine HQ.block_ret ?_
          refine HQ.then_ret ?_
          refine HQ.end_ rfl rfl rfl rfl (.inl rfl) _ (fun a w s => resR2 Tryd.results33 s (.agg ag26 rfl (by exact .mk .here (by repeat constructor))) (.tmp rfl)) ?_
          refine ⟨_, _, .nil, ?_, rfl⟩
          unfold scaled
          repeat (first | rw [if_pos (by assumption)] | rw [if_neg (by assumption)] | rw [if_pos ((fits_iff _).2 (by omega))] | rw [if_neg (fun h => by have := (fits_iff _).1 h; omega)])
          first | done | rfl
    · skip
      try simp only [decide_eq_true_eq, decide_eq_false_iff_not, Bool.not_eq_true', Bool.not_eq_false'] at h29
      refine H.skip ?_
      refine HQ.block_normal ?_
      refine HQ.keep (.cons (t := 8) rfl (.cons (t := 9) rfl (.nil))) ?_
      refine HQ.next ?_
      refine H.seq ?_
      refine H.region ?_
      refine HO.v (V.build ze26 pl26 rfl (.nil) (.nil)) (ltn rfl) ?_
      refine HO.store sz26 rfl rfl rfl rfl rfl (by exact .mk .here (by repeat constructor)) ?_
      refine HO.v (V.assign rfl) (ltn rfl) ?_
      refine HO.nil ?_
      refine HQ.next ?_
      refine H.ret ?_
      refine HQ.end_ rfl rfl rfl rfl (.inl rfl) _ (fun a w s => resR2 Tryd.results33 s (.agg ag26 rfl (by exact .mk .here (by repeat constructor))) (.tmp rfl)) ?_
      refine ⟨_, _, .nil, ?_, rfl⟩
      unfold scaled
      repeat (first | rw [if_pos (by assumption)] | rw [if_neg (by assumption)] | rw [if_pos ((fits_iff _).2 (by omega))] | rw [if_neg (fun h => by have := (fits_iff _).1 h; omega)])
      first | done | rfl
theorem shifted13_w (to a n : Int) (hn : -1000000 ≤ n ∧ n ≤ 1000000) :
    Tri Tryd.prog 34 #[.int .i64 to, .int .i64 a, .int .i64 n] [] [] (fun v L' => v = .tuple #[vIn (shifted to a n).1, .bool (shifted to a n).2] ∧ L' = []) := by
  refine Tri.of' 34 [.int .i64 to, .int .i64 a, .int .i64 n] [(0, .int .i64 to), (1, .int .i64 a), (2, .int .i64 n)] Tryd.func34 Tryd.ntmps34 rfl rfl rfl ?_
  intro w0
  refine H.seq ?_
  refine H.region ?_
  refine HO.alloc ze26 rfl (ltn rfl) ?_
  intro b6
  refine HO.v (V.assign rfl) (ltn rfl) ?_
  refine HO.nil ?_
  refine HQ.next ?_
  refine H.seq ?_
  refine H.block ?_
  refine H.seq ?_
  refine H.region ?_
  refine HO.v (V.move rfl) (ltn rfl) ?_
  refine HO.v (V.eqlI rfl rfl) (ltn rfl) ?_
  refine HO.v (V.assign rfl) (ltn rfl) ?_
  refine HO.nil ?_
  refine HQ.keep (.cons (t := 0) rfl (.cons (t := 1) rfl (.cons (t := 2) rfl (.cons (t := 6) rfl (.cons (t := 7) rfl (.cons (t := 8) rfl (.nil))))))) ?_
  refine HQ.next ?_
  refine H.condB rfl (fun h8 => ?_) (fun h8 => ?_)
  · skip
    try simp only [decide_eq_true_eq, decide_eq_false_iff_not, Bool.not_eq_true', Bool.not_eq_false'] at h8
    refine H.seq ?_
    refine H.region ?_
    refine HO.v (V.move rfl) (ltn rfl) ?_
    refine HO.v (V.move rfl) (ltn rfl) ?_
    refine HO.v (V.build ze26 pl26 rfl (.cons rfl (.cons rfl (.cons rfl (.nil)))) (.cons rfl rfl rfl (by repeat constructor) (.cons rfl rfl rfl (by repeat constructor) (.cons rfl rfl rfl (by repeat constructor) (.nil))))) (ltn rfl) ?_
    refine HO.store sz26 rfl rfl rfl rfl rfl (by exact .mk .here (by repeat constructor)) ?_
    refine HO.v (V.assign rfl) (ltn rfl) ?_
    refine HO.nil ?_
    refine HQ.keep (.cons (t := 0) rfl (.cons (t := 1) rfl (.cons (t := 2) rfl (.cons (t := 6) rfl (.cons (t := 7) rfl (.nil)))))) ?_
    refine HQ.next ?_
    refine H.ret ?_
    refine HQ.block_ret ?_
    refine HQ.then_ret ?_
    refine HQ.end_ rfl rfl rfl rfl (.inl rfl) _ (fun a w s => resR2 Tryd.results34 s (.agg ag26 rfl (by exact .mk .here (by repeat constructor))) (.tmp rfl)) ?_
    refine ⟨_, _, .nil, ?_, rfl⟩
    unfold shifted
    repeat (first | rw [if_pos (by omega)] | rw [if_neg (by omega)])
    first | done | rfl
  · skip
    try simp only [decide_eq_true_eq, decide_eq_false_iff_not, Bool.not_eq_true', Bool.not_eq_false'] at h8
    refine H.seq ?_
    refine H.region ?_
    refine HO.v (V.move rfl) (ltn rfl) ?_
    refine HO.v (V.gtr rfl rfl) (ltn rfl) ?_
    refine HO.v (V.move rfl) (ltn rfl) ?_
    refine HO.part (t := 17) rfl (fun g17 => ?_) (fun g17 => ?_)
    · skip
      try simp only [decide_eq_true_eq, decide_eq_false_iff_not, Bool.not_eq_true', Bool.not_eq_false'] at g17
      refine HO.gskip rfl rfl rfl rfl (ltn rfl) ?_
      refine HO.gskip rfl rfl rfl rfl (ltn rfl) ?_
      refine HO.v (V.pickT rfl rfl) (ltn rfl) ?_
      refine HO.v (V.assign rfl) (ltn rfl) ?_
      refine HO.nil ?_
      refine HQ.keep (.cons (t := 0) rfl (.cons (t := 1) rfl (.cons (t := 2) rfl (.cons (t := 6) rfl (.cons (t := 7) rfl (.cons (t := 14) rfl (.nil))))))) ?_
      refine HQ.next ?_
      refine H.condT rfl rfl ?_
      refine H.seq ?_
      refine H.region ?_
      refine HO.v (V.build ze26 pl26 rfl (.nil) (.nil)) (ltn rfl) ?_
      refine HO.store sz26 rfl rfl rfl rfl rfl (by exact .mk .here (by repeat constructor)) ?_
      refine HO.v (V.assign rfl) (ltn rfl) ?_
      refine HO.nil ?_
      refine HQ.keep (.cons (t := 0) rfl (.cons (t := 1) rfl (.cons (t := 2) rfl (.cons (t := 6) rfl (.cons (t := 7) rfl (.nil)))))) ?_
      refine HQ.next ?_
      refine H.ret ?_
      refine HQ.block_ret ?_
      refine HQ.then_ret ?_
      refine HQ.end_ rfl rfl rfl rfl (.inl rfl) _ (fun a w s => resR2 Tryd.results34 s (.agg ag26 rfl (by exact .mk .here (by repeat constructor))) (.tmp rfl)) ?_
      refine ⟨_, _, .nil, ?_, rfl⟩
      unfold shifted
      repeat (first | rw [if_pos (by omega)] | rw [if_neg (by omega)])
      first | done | rfl
    · skip
      try simp only [decide_eq_true_eq, decide_eq_false_iff_not, Bool.not_eq_true', Bool.not_eq_false'] at g17
      refine HO.gdo rfl rfl rfl rfl ?_
      refine HO.v (V.move rfl) (ltn rfl) ?_
      refine HO.gdo rfl rfl rfl rfl ?_
      refine HO.v (V.lss rfl rfl) (ltn rfl) ?_
      refine HO.v (V.pickF rfl rfl) (ltn rfl) ?_
      refine HO.v (V.assign rfl) (ltn rfl) ?_
      refine HO.nil ?_
      refine HQ.keep (.cons (t := 0) rfl (.cons (t := 1) rfl (.cons (t := 2) rfl (.cons (t := 6) rfl (.cons (t := 7) rfl (.cons (t := 14) rfl (.nil))))))) ?_
      refine HQ.next ?_
      refine H.condB rfl (fun h14 => ?_) (fun h14 => ?_)
      · skip
        try simp only [decide_eq_true_eq, decide_eq_false_iff_not, Bool.not_eq_true', Bool.not_eq_false'] at h14
        refine H.seq ?_
        refine H.region ?_
        refine HO.v (V.build ze26 pl26 rfl (.nil) (.nil)) (ltn rfl) ?_
        refine HO.store sz26 rfl rfl rfl rfl rfl (by exact .mk .here (by repeat constructor)) ?_
        refine HO.v (V.assign rfl) (ltn rfl) ?_
        refine HO.nil ?_
        refine HQ.keep (.cons (t := 0) rfl (.cons (t := 1) rfl (.cons (t := 2) rfl (.cons (t := 6) rfl (.cons (t := 7) rfl (.nil)))))) ?_
        refine HQ.next ?_
        refine H.ret ?_
        refine HQ.block_ret ?_
        refine HQ.then_ret ?_
        refine HQ.end_ rfl rfl rfl rfl (.inl rfl) _ (fun a w s => resR2 Tryd.results34 s (.agg ag26 rfl (by exact .mk .here (by repeat constructor))) (.tmp rfl)) ?_
        refine ⟨_, _, .nil, ?_, rfl⟩
        unfold shifted
        repeat (first | rw [if_pos (by omega)] | rw [if_neg (by omega)])
        first | done | rfl
      · skip
        try simp only [decide_eq_true_eq, decide_eq_false_iff_not, Bool.not_eq_true', Bool.not_eq_false'] at h14
        refine H.seq ?_
        refine H.region ?_
        refine HO.v (V.move rfl) (ltn rfl) ?_
        refine HO.v (V.gtr rfl rfl) (ltn rfl) ?_
        refine HO.v (V.assign rfl) (ltn rfl) ?_
        refine HO.nil ?_
        refine HQ.keep (.cons (t := 0) rfl (.cons (t := 1) rfl (.cons (t := 2) rfl (.cons (t := 6) rfl (.cons (t := 7) rfl (.cons (t := 22) rfl (.nil))))))) ?_
        refine HQ.next ?_
        refine H.condB rfl (fun h22 => ?_) (fun h22 => ?_)
        · skip
          try simp only [decide_eq_true_eq, decide_eq_false_iff_not, Bool.not_eq_true', Bool.not_eq_false'] at h22
          refine H.seq ?_
          refine H.region ?_
          refine HO.v (V.move rfl) (ltn rfl) ?_
          refine HO.v (V.move rfl) (ltn rfl) ?_
          refine HO.v (V.move rfl) (ltn rfl) ?_
          refine HO.v (V.build ze26 pl26 rfl (.cons rfl (.cons rfl (.cons rfl (.cons rfl (.nil))))) (.cons rfl rfl rfl (by repeat constructor) (.cons rfl rfl rfl (by repeat constructor) (.cons rfl rfl rfl (by repeat constructor) (.cons rfl rfl rfl (by repeat constructor) (.nil)))))) (ltn rfl) ?_
          refine HO.store sz26 rfl rfl rfl rfl rfl (by exact .mk .here (by repeat constructor)) ?_
          refine HO.v (V.assign rfl) (ltn rfl) ?_
          refine HO.nil ?_
          refine HQ.keep (.cons (t := 0) rfl (.cons (t := 1) rfl (.cons (t := 2) rfl (.cons (t := 6) rfl (.cons (t := 7) rfl (.nil)))))) ?_
          refine HQ.next ?_
          refine H.ret ?_
          refine HQ.block_ret ?_
          refine HQ.then_ret ?_
          refine HQ.end_ rfl rfl rfl rfl (.inl rfl) _ (fun a w s => resR2 Tryd.results34 s (.agg ag26 rfl (by exact .mk .here (by repeat constructor))) (.tmp rfl)) ?_
          refine ⟨_, _, .nil, ?_, rfl⟩
          unfold shifted
          repeat (first | rw [if_pos (by omega)] | rw [if_neg (by omega)])
          first | done | rfl
        · skip
          try simp only [decide_eq_true_eq, decide_eq_false_iff_not, Bool.not_eq_true', Bool.not_eq_false'] at h22
          refine H.skip ?_
          refine HQ.block_normal ?_
          refine HQ.next ?_
          refine H.seq ?_
          refine H.region ?_
          refine HO.v (V.move rfl) (ltn rfl) ?_
          refine HO.v (V.move rfl) (ltn rfl) ?_
          refine HO.v (V.move rfl) (ltn rfl) ?_
          refine HO.v (V.neg rfl (by omega)) (ltn rfl) ?_
          refine HO.v (V.build ze26 pl26 rfl (.cons rfl (.cons rfl (.cons rfl (.cons rfl (.nil))))) (.cons rfl rfl rfl (by repeat constructor) (.cons rfl rfl rfl (by repeat constructor) (.cons rfl rfl rfl (by repeat constructor) (.cons rfl rfl rfl (by repeat constructor) (.nil)))))) (ltn rfl) ?_
          refine HO.store sz26 rfl rfl rfl rfl rfl (by exact .mk .here (by repeat constructor)) ?_
          refine HO.v (V.assign rfl) (ltn rfl) ?_
          refine HO.nil ?_
          refine HQ.keep (.cons (t := 6) rfl (.cons (t := 7) rfl (.nil))) ?_
          refine HQ.next ?_
          refine H.ret ?_
          refine HQ.end_ rfl rfl rfl rfl (.inl rfl) _ (fun a w s => resR2 Tryd.results34 s (.agg ag26 rfl (by exact .mk .here (by repeat constructor))) (.tmp rfl)) ?_
          refine ⟨_, _, .nil, ?_, rfl⟩
          unfold shifted
          repeat (first | rw [if_pos (by omega)] | rw [if_neg (by omega)])
          first | done | rfl
theorem plain13_5 (i : Ins) (hc : -512 ≤ i.c ∧ i.c ≤ 512) (ho : i.op = 5) :
    Tri Tryd.prog 12 #[vIn i] [] [] (fun v L' => v = vIn (plain i) ∧ L' = []) := by
  refine Tri.of' 110 [vIn i] [(0, vIn i)] Tryd.func12 Tryd.ntmps12 rfl rfl rfl ?_
  intro w0
  refine H.seq ?_
  refine H.region ?_
  refine HO.box rfl rfl (ltn rfl) ?_
  intro b1
  refine HO.alloc ze26 rfl (ltn rfl) ?_
  intro b2
  refine HO.nil ?_
  refine HQ.next ?_
  refine H.seq ?_
  refine H.region ?_
  refine HO.v (V.assign rfl) (ltn rfl) ?_
  refine HO.nil ?_
  refine HQ.next ?_
  refine H.cut (σ := Nat × Int) (fun s => [(1, .pointer (some ⟨b1, 0, none⟩)), (2, .pointer (some ⟨b2, 0, none⟩)), (3, .int .i64 ((s.1 : Nat) : Int))]) (fun s => [cellsCh b2 26 [.int .i64 0, .int .i64 0, .int .i64 0, .int .i64 0, .int .i64 0], cellsCh b1 26 [.int .i64 i.op, .int .i64 i.to, .int .i64 i.a, .int .i64 i.b, .int .i64 i.c]]) (fun s => (i.c = s.2 * 2 ^ s.1 ∧ s.1 ≤ 9) ∧ ¬ (1 < s.2 ∧ s.2.tmod 2 = 0)) ?_ ?_
  · skip
    refine H.seq ?_
    refine H.region ?_
    refine HO.v (V.fieldAddr (fs := #[]) fa26_4 rfl) (ltn rfl) ?_
    refine HO.v (V.load sc3 rfl (by exact .mk (.there .here) rfl)) (ltn rfl) ?_
    refine HO.v (V.assign rfl) (ltn rfl) ?_
    refine HO.nil ?_
    refine HQ.keep (.cons (t := 1) rfl (.cons (t := 2) rfl (.cons (t := 3) rfl (.cons (t := 4) rfl (.nil))))) ?_
    refine HQ.next ?_
    refine H.block ?_
    refine H.loop (σ := Nat × Int) (fun s => s.2.toNat) (fun s => [(1, .pointer (some ⟨b1, 0, none⟩)), (2, .pointer (some ⟨b2, 0, none⟩)), (3, .int .i64 ((s.1 : Nat) : Int)), (4, .int .i64 s.2)]) (fun s => [cellsCh b2 26 [.int .i64 0, .int .i64 0, .int .i64 0, .int .i64 0, .int .i64 0], cellsCh b1 26 [.int .i64 i.op, .int .i64 i.to, .int .i64 i.a, .int .i64 i.b, .int .i64 i.c]]) (fun s => i.c = s.2 * 2 ^ s.1 ∧ s.1 ≤ 9 ∧ -512 ≤ s.2 ∧ s.2 ≤ 512) ((0, i.c)) ?_ ?_ ?_
    · exact ⟨by simp, by omega, hc⟩
    · skip
      exact HQ.fits (.cons rfl (.cons rfl (.cons rfl (.cons rfl (.nil))))) (by exact Rems.cons (by exact .here) (Rems.cons (by exact .here) (Rems.nil)))
    intro s hI
    obtain ⟨two, n⟩ := s
    obtain ⟨hcn, h9, hnb⟩ := hI
    dsimp only at hcn h9 hnb ⊢
    have hq : 1 < n → n.tmod 2 = 0 → _ := fun u1 u2 => twos_round hc hcn h9 u1 u2
    have q2 := tdivL_bd 2 (c := n) (by omega)
    refine H.seq ?_
    refine H.seq ?_
    refine H.region ?_
    refine HO.v (V.move rfl) (ltn rfl) ?_
    refine HO.v (V.gtr rfl rfl) (ltn rfl) ?_
    refine HO.v (V.move rfl) (ltn rfl) ?_
    refine HO.part (t := 10) rfl (fun g10 => ?_) (fun g10 => ?_)
    · skip
      try simp only [decide_eq_true_eq, decide_eq_false_iff_not, Bool.not_eq_true', Bool.not_eq_false'] at g10
      refine HO.gdo rfl rfl rfl rfl ?_
      refine HO.v (V.move rfl) (ltn rfl) ?_
      refine HO.gdo rfl rfl rfl rfl ?_
      refine HO.v (V.rem rfl rfl (by omega)) (ltn rfl) ?_
      refine HO.gdo rfl rfl rfl rfl ?_
      refine HO.v (V.eqlI rfl rfl) (ltn rfl) ?_
      refine HO.v (V.pickT rfl rfl) (ltn rfl) ?_
      refine HO.nil ?_
      refine HQ.next ?_
      refine H.condB rfl (fun h14 => ?_) (fun h14 => ?_)
      · skip
        try simp only [decide_eq_true_eq, decide_eq_false_iff_not, Bool.not_eq_true', Bool.not_eq_false'] at h14
        refine H.skip ?_
        refine HQ.next ?_
        refine H.seq ?_
        refine H.block ?_
        refine H.region ?_
        refine HO.v (V.move rfl) (ltn rfl) ?_
        refine HO.v (V.add rfl rfl (by omega)) (ltn rfl) ?_
        refine HO.v (V.assign rfl) (ltn rfl) ?_
        refine HO.nil ?_
        refine HQ.block_normal ?_
        refine HQ.next ?_
        refine H.region ?_
        refine HO.v (V.move rfl) (ltn rfl) ?_
        refine HO.v (V.quo rfl rfl (by omega) (by omega)) (ltn rfl) ?_
        refine HO.v (V.assign rfl) (ltn rfl) ?_
        refine HO.nil ?_
        refine HQ.round ((two + 1, n.tdiv 2)) ?_ ?_ ?_
        · exact (have q := hq g10 h14; ⟨q.1, q.2.1, by dsimp only; omega, by dsimp only; omega⟩)
        · (have q := hq g10 h14; dsimp only; omega)
        · skip
          exact HQ.fits (.cons rfl (.cons rfl (.cons rfl (.cons rfl (.nil))))) (by exact Rems.cons (by exact .here) (Rems.cons (by exact .here) (Rems.nil)))
      · skip
        try simp only [decide_eq_true_eq, decide_eq_false_iff_not, Bool.not_eq_true', Bool.not_eq_false'] at h14
        refine H.exit ?_
        refine HQ.then_exit ?_
        refine HQ.then_exit ?_
        refine HQ.exit_hit ?_
        refine HQ.cut ((two, n)) ?_ ?_
        · exact ⟨⟨hcn, h9⟩, by first | (intro e; exact absurd e.2 h14) | (intro e; exact absurd e.1 g10)⟩
        · skip
          exact HQ.fits (.cons rfl (.cons rfl (.cons rfl (.nil)))) (by exact Rems.cons (by exact .here) (Rems.cons (by exact .here) (Rems.nil)))
    · skip
      try simp only [decide_eq_true_eq, decide_eq_false_iff_not, Bool.not_eq_true', Bool.not_eq_false'] at g10
      refine HO.gskip rfl rfl rfl rfl (ltn rfl) ?_
      refine HO.gskip rfl rfl rfl rfl (ltn rfl) ?_
      refine HO.gskip rfl rfl rfl rfl (ltn rfl) ?_
      refine HO.v (V.pickF rfl rfl) (ltn rfl) ?_
      refine HO.nil ?_
      refine HQ.next ?_
      refine H.condF rfl rfl ?_
      refine H.exit ?_
      refine HQ.then_exit ?_
      refine HQ.then_exit ?_
      refine HQ.exit_hit ?_
      refine HQ.cut ((two, n)) ?_ ?_
      · exact ⟨⟨hcn, h9⟩, by first | (intro e; exact absurd e.2 h14) | (intro e; exact absurd e.1 g10)⟩
      · skip
        exact HQ.fits (.cons rfl (.cons rfl (.cons rfl (.nil)))) (by exact Rems.cons (by exact .here) (Rems.cons (by exact .here) (Rems.nil)))
  rintro ⟨two, n⟩ ⟨⟨hcn, h9⟩, hno⟩
  dsimp only at hcn h9 hno ⊢
  refine H.cut (σ := Nat × Bool) (fun s => [(1, .pointer (some ⟨b1, 0, none⟩)), (2, .pointer (some ⟨b2, 0, none⟩)), (3, .int .i64 ((s.1 : Nat) : Int)), (5, .bool s.2)]) (fun s => [cellsCh b2 26 [.int .i64 0, .int .i64 0, .int .i64 0, .int .i64 0, .int .i64 0], cellsCh b1 26 [.int .i64 i.op, .int .i64 i.to, .int .i64 i.a, .int .i64 i.b, .int .i64 i.c]]) (fun s => (s.2 = true → pow2 i.c ≠ 0 ∧ pow2 i.c = s.1) ∧ (s.2 = false → pow2 i.c = 0)) ?_ ?_
  · skip
    refine H.draws (.cons (i := 0) rfl (.cons (i := 1) rfl (.nil))) (by kernel_rfl) ?_
    refine HA.take (i := 0) rfl rfl (ltn rfl) (by kernel_rfl) (by kernel_rfl) (by kernel_rfl) (gives_of want_none (V.fieldAddr (fs := #[]) fa26_4 rfl)) (.cons (by exact (.head _)) (.cons (by exact (.tail _ (.head _))) (Sub.nil))) rfl ?_
    refine HA.take (i := 1) rfl rfl (ltn rfl) (by kernel_rfl) (by kernel_rfl) (by kernel_rfl) (gives_of want_none (V.load sc3 rfl (by exact .mk (.there .here) rfl))) (.cons (by exact (.head _)) (.cons (by exact (.tail _ (.head _))) (Sub.nil))) rfl ?_
    refine HA.take (i := 2) rfl rfl (ltn rfl) (by kernel_rfl) (by kernel_rfl) (by kernel_rfl) (gives_of want_none (V.gtr rfl rfl)) (.cons (by exact (.head _)) (.cons (by exact (.tail _ (.head _))) (Sub.nil))) rfl ?_
    refine HA.take (i := 3) rfl rfl (ltn rfl) (by kernel_rfl) (by kernel_rfl) (by kernel_rfl) (gives_of want_none (V.move rfl)) (.cons (by exact (.head _)) (.cons (by exact (.tail _ (.head _))) (Sub.nil))) rfl ?_
    refine HA.part (t := 22) rfl (fun g22 => ?_) (fun g22 => ?_)
    · skip
      try simp only [decide_eq_true_eq, decide_eq_false_iff_not, Bool.not_eq_true', Bool.not_eq_false'] at g22
      refine HA.take (i := 4) rfl rfl (ltn rfl) (by kernel_rfl) (by kernel_rfl) (by kernel_rfl) (gives_of (want_some rfl rfl rfl rfl) (V.fieldAddr (fs := #[]) fa26_4 rfl)) (.cons (by exact (.head _)) (.cons (by exact (.tail _ (.head _))) (Sub.nil))) rfl ?_
      refine HA.take (i := 5) rfl rfl (ltn rfl) (by kernel_rfl) (by kernel_rfl) (by kernel_rfl) (gives_of (want_some rfl rfl rfl rfl) (V.load sc3 rfl (by exact .mk (.there .here) rfl))) (.cons (by exact (.head _)) (.cons (by exact (.tail _ (.head _))) (Sub.nil))) rfl ?_
      refine HA.take (i := 6) rfl rfl (ltn rfl) (by kernel_rfl) (by kernel_rfl) (by kernel_rfl) (gives_of (want_some rfl rfl rfl rfl) (V.move rfl)) (.cons (by exact (.head _)) (.cons (by exact (.tail _ (.head _))) (Sub.nil))) rfl ?_
      refine HA.take (i := 7) rfl rfl (ltn rfl) (by kernel_rfl) (by kernel_rfl) (by kernel_rfl) (gives_of (want_some rfl rfl rfl rfl) (V.shl rfl rfl (by omega))) (.cons (by exact (.head _)) (.cons (by exact (.tail _ (.head _))) (Sub.nil))) rfl ?_
      rw [shl_two h9]
      refine HA.take (i := 8) rfl rfl (ltn rfl) (by kernel_rfl) (by kernel_rfl) (by kernel_rfl) (gives_of (want_some rfl rfl rfl rfl) (V.eqlI rfl rfl)) (.cons (by exact (.head _)) (.cons (by exact (.tail _ (.head _))) (Sub.nil))) rfl ?_
      refine HA.take (i := 9) rfl rfl (ltn rfl) (by kernel_rfl) (by kernel_rfl) (by kernel_rfl) (gives_of want_none (V.pickT rfl rfl)) (.cons (by exact (.head _)) (.cons (by exact (.tail _ (.head _))) (Sub.nil))) rfl ?_
      refine HA.take (i := 10) rfl rfl (ltn rfl) (by kernel_rfl) (by kernel_rfl) (by kernel_rfl) (gives_of want_none (V.assign rfl)) (.cons (by exact (.head _)) (.cons (by exact (.tail _ (.head _))) (Sub.nil))) rfl ?_
      refine HA.done (by kernel_rfl) ?_
      refine HQ.cut ((two, decide (i.c = 2 ^ two))) ?_ ?_
      · exact ⟨fun e => twos_yes hc hcn h9 hno g22 (by simpa using e), fun e => twos_no hc hcn h9 hno (fun q => (by simp [q.2] at e))⟩
      · skip
        exact HQ.fits (.cons rfl (.cons rfl (.cons rfl (.cons rfl (.nil))))) (by exact Rems.cons (by exact .here) (Rems.cons (by exact .here) (Rems.nil)))
    · skip
      try simp only [decide_eq_true_eq, decide_eq_false_iff_not, Bool.not_eq_true', Bool.not_eq_false'] at g22
      refine HA.take (i := 4) rfl rfl (ltn rfl) (by kernel_rfl) (by kernel_rfl) (by kernel_rfl) (gives_not (want_not rfl rfl rfl rfl)) (.cons (by exact (.head _)) (.cons (by exact (.tail _ (.head _))) (Sub.nil))) rfl ?_
      refine HA.take (i := 5) rfl rfl (ltn rfl) (by kernel_rfl) (by kernel_rfl) (by kernel_rfl) (gives_not (want_not rfl rfl rfl rfl)) (.cons (by exact (.head _)) (.cons (by exact (.tail _ (.head _))) (Sub.nil))) rfl ?_
      refine HA.take (i := 6) rfl rfl (ltn rfl) (by kernel_rfl) (by kernel_rfl) (by kernel_rfl) (gives_not (want_not rfl rfl rfl rfl)) (.cons (by exact (.head _)) (.cons (by exact (.tail _ (.head _))) (Sub.nil))) rfl ?_
      refine HA.take (i := 7) rfl rfl (ltn rfl) (by kernel_rfl) (by kernel_rfl) (by kernel_rfl) (gives_not (want_not rfl rfl rfl rfl)) (.cons (by exact (.head _)) (.cons (by exact (.tail _ (.head _))) (Sub.nil))) rfl ?_
      refine HA.take (i := 8) rfl rfl (ltn rfl) (by kernel_rfl) (by kernel_rfl) (by kernel_rfl) (gives_not (want_not rfl rfl rfl rfl)) (.cons (by exact (.head _)) (.cons (by exact (.tail _ (.head _))) (Sub.nil))) rfl ?_
      refine HA.take (i := 9) rfl rfl (ltn rfl) (by kernel_rfl) (by kernel_rfl) (by kernel_rfl) (gives_of want_none (V.pickF rfl rfl)) (.cons (by exact (.head _)) (.cons (by exact (.tail _ (.head _))) (Sub.nil))) rfl ?_
      refine HA.take (i := 10) rfl rfl (ltn rfl) (by kernel_rfl) (by kernel_rfl) (by kernel_rfl) (gives_of want_none (V.assign rfl)) (.cons (by exact (.head _)) (.cons (by exact (.tail _ (.head _))) (Sub.nil))) rfl ?_
      refine HA.done (by kernel_rfl) ?_
      refine HQ.cut ((two, false)) ?_ ?_
      · exact ⟨fun e => (by cases e), fun e => twos_no hc hcn h9 hno (fun q => g22 q.1)⟩
      · skip
        exact HQ.fits (.cons rfl (.cons rfl (.cons rfl (.cons rfl (.nil))))) (by exact Rems.cons (by exact .here) (Rems.cons (by exact .here) (Rems.nil)))
  rintro ⟨two, p⟩ ⟨hy, hz⟩
  dsimp only at hy hz ⊢
  have hk : (p = true ∧ pow2 i.c ≠ 0 ∧ pow2 i.c = two) ∨ (p = false ∧ pow2 i.c = 0) := by (cases p; exact .inr ⟨rfl, hz rfl⟩; exact .inl ⟨rfl, hy rfl⟩)
  refine H.seq ?_
  refine H.block ?_
  refine H.seq ?_
  refine H.region ?_
  refine HO.v (V.fieldAddr (fs := #[]) fa26_0 rfl) (ltn rfl) ?_
  refine HO.v (V.load sc3 rfl (by exact .mk (.there .here) rfl)) (ltn rfl) ?_
  refine HO.v (V.eqlI rfl rfl) (ltn rfl) ?_
  refine HO.v (V.move rfl) (ltn rfl) ?_
  refine HO.setT (t := 33) rfl (by simp [ho]) ?_
  refine HO.gskip rfl rfl rfl rfl (ltn rfl) ?_
  refine HO.gskip rfl rfl rfl rfl (ltn rfl) ?_
  refine HO.gskip rfl rfl rfl rfl (ltn rfl) ?_
  refine HO.v (V.pickT rfl rfl) (ltn rfl) ?_
  refine HO.v (V.move rfl) (ltn rfl) ?_
  refine HO.gdo rfl rfl rfl rfl ?_
  refine HO.v (V.fieldAddr (fs := #[]) fa26_4 rfl) (ltn rfl) ?_
  refine HO.gdo rfl rfl rfl rfl ?_
  refine HO.v (V.load sc3 rfl (by exact .mk (.there .here) rfl)) (ltn rfl) ?_
  refine HO.gdo rfl rfl rfl rfl ?_
  refine HO.v (V.eqlI rfl rfl) (ltn rfl) ?_
  refine HO.v (V.pickT rfl rfl) (ltn rfl) ?_
  refine HO.v (V.assign rfl) (ltn rfl) ?_
  refine HO.nil ?_
  refine HQ.keep (.cons (t := 1) rfl (.cons (t := 2) rfl (.cons (t := 3) rfl (.cons (t := 5) rfl (.cons (t := 29) rfl (.nil)))))) ?_
  refine HQ.next ?_
  refine H.condB rfl (fun h29 => ?_) (fun h29 => ?_)
  · skip
    try simp only [decide_eq_true_eq, decide_eq_false_iff_not, Bool.not_eq_true', Bool.not_eq_false'] at h29
    refine H.seq ?_
    refine H.region ?_
    refine HO.v (V.fieldAddr (fs := #[]) fa26_1 rfl) (ltn rfl) ?_
    refine HO.v (V.load sc3 rfl (by exact .mk (.there .here) rfl)) (ltn rfl) ?_
    refine HO.v (V.fieldAddr (fs := #[]) fa26_2 rfl) (ltn rfl) ?_
    refine HO.v (V.load sc3 rfl (by exact .mk (.there .here) rfl)) (ltn rfl) ?_
    refine HO.v (V.build ze26 pl26 rfl (.cons rfl (.cons rfl (.cons rfl (.nil)))) (.cons rfl rfl rfl (by repeat constructor) (.cons rfl rfl rfl (by repeat constructor) (.cons rfl rfl rfl (by repeat constructor) (.nil))))) (ltn rfl) ?_
    refine HO.store sz26 rfl rfl rfl rfl rfl (by exact .mk .here (by repeat constructor)) ?_
    refine HO.nil ?_
    refine HQ.keep (.cons (t := 1) rfl (.cons (t := 2) rfl (.nil))) ?_
    refine HQ.next ?_
    refine H.ret ?_
    refine HQ.block_ret ?_
    refine HQ.then_ret ?_
    refine HQ.end_ rfl rfl rfl rfl (.inl rfl) _ (fun a w s => resR1 Tryd.results12 s (.agg ag26 rfl (by exact .mk .here (by repeat constructor)))) ?_
    refine ⟨_, _, .nil, ?_, rfl⟩
    unfold plain
    rcases hk with ⟨k1, k2, k3⟩ | ⟨k1, k2⟩
    all_goals first | ((repeat (first | rw [if_pos (by omega)] | rw [if_neg (by omega)])); first | done | rfl | (rw [k3]; done)) | (exfalso; clear hy hz hcn h9 hno; simp_all; done)
  · skip
    try simp only [decide_eq_true_eq, decide_eq_false_iff_not, Bool.not_eq_true', Bool.not_eq_false'] at h29
    refine H.seq ?_
    refine H.region ?_
    refine HO.v (V.fieldAddr (fs := #[]) fa26_0 rfl) (ltn rfl) ?_
    refine HO.v (V.load sc3 rfl (by exact .mk (.there .here) rfl)) (ltn rfl) ?_
    refine HO.v (V.eqlI rfl rfl) (ltn rfl) ?_
    refine HO.v (V.move rfl) (ltn rfl) ?_
    refine HO.setT (t := 52) rfl (by simp [ho]) ?_
    refine HO.gskip rfl rfl rfl rfl (ltn rfl) ?_
    refine HO.gskip rfl rfl rfl rfl (ltn rfl) ?_
    refine HO.gskip rfl rfl rfl rfl (ltn rfl) ?_
    refine HO.v (V.pickT rfl rfl) (ltn rfl) ?_
    refine HO.v (V.move rfl) (ltn rfl) ?_
    refine HO.gdo rfl rfl rfl rfl ?_
    refine HO.v (V.fieldAddr (fs := #[]) fa26_4 rfl) (ltn rfl) ?_
    refine HO.gdo rfl rfl rfl rfl ?_
    refine HO.v (V.load sc3 rfl (by exact .mk (.there .here) rfl)) (ltn rfl) ?_
    refine HO.gdo rfl rfl rfl rfl ?_
    refine HO.v (V.eqlI rfl rfl) (ltn rfl) ?_
    refine HO.v (V.pickT rfl rfl) (ltn rfl) ?_
    refine HO.v (V.assign rfl) (ltn rfl) ?_
    refine HO.nil ?_
    refine HQ.keep (.cons (t := 1) rfl (.cons (t := 2) rfl (.cons (t := 3) rfl (.cons (t := 5) rfl (.cons (t := 48) rfl (.nil)))))) ?_
    refine HQ.next ?_
    refine H.condB rfl (fun h48 => ?_) (fun h48 => ?_)
    · skip
      try simp only [decide_eq_true_eq, decide_eq_false_iff_not, Bool.not_eq_true', Bool.not_eq_false'] at h48
      refine H.seq ?_
      refine H.region ?_
      refine HO.v (V.fieldAddr (fs := #[]) fa26_1 rfl) (ltn rfl) ?_
      refine HO.v (V.load sc3 rfl (by exact .mk (.there .here) rfl)) (ltn rfl) ?_
      refine HO.v (V.fieldAddr (fs := #[]) fa26_2 rfl) (ltn rfl) ?_
      refine HO.v (V.load sc3 rfl (by exact .mk (.there .here) rfl)) (ltn rfl) ?_
      refine HO.v (V.build ze26 pl26 rfl (.cons rfl (.cons rfl (.cons rfl (.nil)))) (.cons rfl rfl rfl (by repeat constructor) (.cons rfl rfl rfl (by repeat constructor) (.cons rfl rfl rfl (by repeat constructor) (.nil))))) (ltn rfl) ?_
      refine HO.store sz26 rfl rfl rfl rfl rfl (by exact .mk .here (by repeat constructor)) ?_
      refine HO.nil ?_
      refine HQ.keep (.cons (t := 1) rfl (.cons (t := 2) rfl (.nil))) ?_
      refine HQ.next ?_
      refine H.ret ?_
      refine HQ.block_ret ?_
      refine HQ.then_ret ?_
      refine HQ.end_ rfl rfl rfl rfl (.inl rfl) _ (fun a w s => resR1 Tryd.results12 s (.agg ag26 rfl (by exact .mk .here (by repeat constructor)))) ?_
      refine ⟨_, _, .nil, ?_, rfl⟩
      unfold plain
      rcases hk with ⟨k1, k2, k3⟩ | ⟨k1, k2⟩
      all_goals first | ((repeat (first | rw [if_pos (by omega)] | rw [if_neg (by omega)])); first | done | rfl | (rw [k3]; done)) | (exfalso; clear hy hz hcn h9 hno; simp_all; done)
    · skip
      try simp only [decide_eq_true_eq, decide_eq_false_iff_not, Bool.not_eq_true', Bool.not_eq_false'] at h48
      refine H.seq ?_
      refine H.region ?_
      refine HO.v (V.fieldAddr (fs := #[]) fa26_0 rfl) (ltn rfl) ?_
      refine HO.v (V.load sc3 rfl (by exact .mk (.there .here) rfl)) (ltn rfl) ?_
      refine HO.v (V.eqlI rfl rfl) (ltn rfl) ?_
      refine HO.v (V.move rfl) (ltn rfl) ?_
      refine HO.setT (t := 71) rfl (by simp [ho]) ?_
      refine HO.gdo rfl rfl rfl rfl ?_
      refine HO.v (V.move rfl) (ltn rfl) ?_
      refine HO.v (V.pickT rfl rfl) (ltn rfl) ?_
      refine HO.v (V.assign rfl) (ltn rfl) ?_
      refine HO.nil ?_
      refine HQ.keep (.cons (t := 1) rfl (.cons (t := 2) rfl (.cons (t := 3) rfl (.cons (t := 5) rfl (.cons (t := 67) rfl (.nil)))))) ?_
      refine HQ.next ?_
      refine H.condB rfl (fun h67 => ?_) (fun h67 => ?_)
      · skip
        try simp only [decide_eq_true_eq, decide_eq_false_iff_not, Bool.not_eq_true', Bool.not_eq_false'] at h67
        refine H.seq ?_
        refine H.region ?_
        refine HO.v (V.fieldAddr (fs := #[]) fa26_1 rfl) (ltn rfl) ?_
        refine HO.v (V.load sc3 rfl (by exact .mk (.there .here) rfl)) (ltn rfl) ?_
        refine HO.v (V.fieldAddr (fs := #[]) fa26_2 rfl) (ltn rfl) ?_
        refine HO.v (V.load sc3 rfl (by exact .mk (.there .here) rfl)) (ltn rfl) ?_
        refine HO.v (V.move rfl) (ltn rfl) ?_
        refine HO.v (V.build ze26 pl26 rfl (.cons rfl (.cons rfl (.cons rfl (.cons rfl (.nil))))) (.cons rfl rfl rfl (by repeat constructor) (.cons rfl rfl rfl (by repeat constructor) (.cons rfl rfl rfl (by repeat constructor) (.cons rfl rfl rfl (by repeat constructor) (.nil)))))) (ltn rfl) ?_
        refine HO.store sz26 rfl rfl rfl rfl rfl (by exact .mk .here (by repeat constructor)) ?_
        refine HO.nil ?_
        refine HQ.keep (.cons (t := 1) rfl (.cons (t := 2) rfl (.nil))) ?_
        refine HQ.next ?_
        refine H.ret ?_
        refine HQ.block_ret ?_
        refine HQ.then_ret ?_
        refine HQ.end_ rfl rfl rfl rfl (.inl rfl) _ (fun a w s => resR1 Tryd.results12 s (.agg ag26 rfl (by exact .mk .here (by repeat constructor)))) ?_
        refine ⟨_, _, .nil, ?_, rfl⟩
        unfold plain
        rcases hk with ⟨k1, k2, k3⟩ | ⟨k1, k2⟩
        all_goals first | ((repeat (first | rw [if_pos (by omega)] | rw [if_neg (by omega)])); first | done | rfl | (rw [k3]; done)) | (exfalso; clear hy hz hcn h9 hno; simp_all; done)
      · skip
        try simp only [decide_eq_true_eq, decide_eq_false_iff_not, Bool.not_eq_true', Bool.not_eq_false'] at h67
        refine H.seq ?_
        refine H.region ?_
        refine HO.v (V.fieldAddr (fs := #[]) fa26_0 rfl) (ltn rfl) ?_
        refine HO.v (V.load sc3 rfl (by exact .mk (.there .here) rfl)) (ltn rfl) ?_
        refine HO.v (V.eqlI rfl rfl) (ltn rfl) ?_
        refine HO.v (V.move rfl) (ltn rfl) ?_
        refine HO.setF (t := 84) rfl (by simp [ho]) ?_
        refine HO.gskip rfl rfl rfl rfl (ltn rfl) ?_
        refine HO.v (V.pickF rfl rfl) (ltn rfl) ?_
        refine HO.v (V.assign rfl) (ltn rfl) ?_
        refine HO.nil ?_
        refine HQ.keep (.cons (t := 1) rfl (.cons (t := 2) rfl (.cons (t := 3) rfl (.cons (t := 80) rfl (.nil))))) ?_
        refine HQ.next ?_
        refine H.condF rfl rfl ?_
        refine H.seq ?_
        refine H.region ?_
        refine HO.v (V.fieldAddr (fs := #[]) fa26_0 rfl) (ltn rfl) ?_
        refine HO.v (V.load sc3 rfl (by exact .mk (.there .here) rfl)) (ltn rfl) ?_
        refine HO.v (V.eqlI rfl rfl) (ltn rfl) ?_
        refine HO.v (V.move rfl) (ltn rfl) ?_
        refine HO.setF (t := 97) rfl (by simp [ho]) ?_
        refine HO.gskip rfl rfl rfl rfl (ltn rfl) ?_
        refine HO.gskip rfl rfl rfl rfl (ltn rfl) ?_
        refine HO.gskip rfl rfl rfl rfl (ltn rfl) ?_
        refine HO.gskip rfl rfl rfl rfl (ltn rfl) ?_
        refine HO.gskip rfl rfl rfl rfl (ltn rfl) ?_
        refine HO.v (V.pickF rfl rfl) (ltn rfl) ?_
        refine HO.v (V.assign rfl) (ltn rfl) ?_
        refine HO.nil ?_
        refine HQ.keep (.cons (t := 1) rfl (.cons (t := 2) rfl (.cons (t := 93) rfl (.nil)))) ?_
        refine HQ.next ?_
        refine H.condF rfl rfl ?_
        refine H.skip ?_
        refine HQ.block_normal ?_
        refine HQ.next ?_
        refine H.seq ?_
        refine H.region ?_
        refine HO.v (V.loadA ag26 rfl (by exact .mk (.there .here) (by repeat constructor))) (ltn rfl) ?_
        refine HO.store sz26 rfl rfl rfl rfl rfl (by exact .mk .here (by repeat constructor)) ?_
        refine HO.nil ?_
        refine HQ.next ?_
        refine H.ret ?_
        refine HQ.end_ rfl rfl rfl rfl (.inl rfl) _ (fun a w s => resR1 Tryd.results12 s (.agg ag26 rfl (by exact .mk .here (by repeat constructor)))) ?_
        refine ⟨_, _, .nil, ?_, rfl⟩
        unfold plain
        rcases hk with ⟨k1, k2, k3⟩ | ⟨k1, k2⟩
        all_goals first | ((repeat (first | rw [if_pos (by omega)] | rw [if_neg (by omega)])); first | done | rfl | (rw [k3]; done)) | (exfalso; clear hy hz hcn h9 hno; simp_all; done)
theorem plain13_6 (i : Ins) (hc : -512 ≤ i.c ∧ i.c ≤ 512) (ho : i.op = 6) :
    Tri Tryd.prog 12 #[vIn i] [] [] (fun v L' => v = vIn (plain i) ∧ L' = []) := by
  refine Tri.of' 110 [vIn i] [(0, vIn i)] Tryd.func12 Tryd.ntmps12 rfl rfl rfl ?_
  intro w0
  refine H.seq ?_
  refine H.region ?_
  refine HO.box rfl rfl (ltn rfl) ?_
  intro b1
  refine HO.alloc ze26 rfl (ltn rfl) ?_
  intro b2
  refine HO.nil ?_
  refine HQ.next ?_
  refine H.seq ?_
  refine H.region ?_
  refine HO.v (V.assign rfl) (ltn rfl) ?_
  refine HO.nil ?_
  refine HQ.next ?_
  refine H.cut (σ := Nat × Int) (fun s => [(1, .pointer (some ⟨b1, 0, none⟩)), (2, .pointer (some ⟨b2, 0, none⟩)), (3, .int .i64 ((s.1 : Nat) : Int))]) (fun s => [cellsCh b2 26 [.int .i64 0, .int .i64 0, .int .i64 0, .int .i64 0, .int .i64 0], cellsCh b1 26 [.int .i64 i.op, .int .i64 i.to, .int .i64 i.a, .int .i64 i.b, .int .i64 i.c]]) (fun s => (i.c = s.2 * 2 ^ s.1 ∧ s.1 ≤ 9) ∧ ¬ (1 < s.2 ∧ s.2.tmod 2 = 0)) ?_ ?_
  · skip
    refine H.seq ?_
    refine H.region ?_
    refine HO.v (V.fieldAddr (fs := #[]) fa26_4 rfl) (ltn rfl) ?_
    refine HO.v (V.load sc3 rfl (by exact .mk (.there .here) rfl)) (ltn rfl) ?_
    refine HO.v (V.assign rfl) (ltn rfl) ?_
    refine HO.nil ?_
    refine HQ.keep (.cons (t := 1) rfl (.cons (t := 2) rfl (.cons (t := 3) rfl (.cons (t := 4) rfl (.nil))))) ?_
    refine HQ.next ?_
    refine H.block ?_
    refine H.loop (σ := Nat × Int) (fun s => s.2.toNat) (fun s => [(1, .pointer (some ⟨b1, 0, none⟩)), (2, .pointer (some ⟨b2, 0, none⟩)), (3, .int .i64 ((s.1 : Nat) : Int)), (4, .int .i64 s.2)]) (fun s => [cellsCh b2 26 [.int .i64 0, .int .i64 0, .int .i64 0, .int .i64 0, .int .i64 0], cellsCh b1 26 [.int .i64 i.op, .int .i64 i.to, .int .i64 i.a, .int .i64 i.b, .int .i64 i.c]]) (fun s => i.c = s.2 * 2 ^ s.1 ∧ s.1 ≤ 9 ∧ -512 ≤ s.2 ∧ s.2 ≤ 512) ((0, i.c)) ?_ ?_ ?_
    · exact ⟨by simp, by omega, hc⟩
    · skip
      exact HQ.fits (.cons rfl (.cons rfl (.cons rfl (.cons rfl (.nil))))) (by exact Rems.cons (by exact .here) (Rems.cons (by exact .here) (Rems.nil)))
    intro s hI
    obtain ⟨two, n⟩ := s
    obtain ⟨hcn, h9, hnb⟩ := hI
    dsimp only at hcn h9 hnb ⊢
    have hq : 1 < n → n.tmod 2 = 0 → _ := fun u1 u2 => twos_round hc hcn h9 u1 u2
    have q2 := tdivL_bd 2 (c := n) (by omega)
    refine H.seq ?_
    refine H.seq ?_
    refine H.region ?_
    refine HO.v (V.move rfl) (ltn rfl) ?_
    refine HO.v (V.gtr rfl rfl) (ltn rfl) ?_
    refine HO.v (V.move rfl) (ltn rfl) ?_
    refine HO.part (t := 10) rfl (fun g10 => ?_) (fun g10 => ?_)
    · skip
      try simp only [decide_eq_true_eq, decide_eq_false_iff_not, Bool.not_eq_true', Bool.not_eq_false'] at g10
      refine HO.gdo rfl rfl rfl rfl ?_
      refine HO.v (V.move rfl) (ltn rfl) ?_
      refine HO.gdo rfl rfl rfl rfl ?_
      refine HO.v (V.rem rfl rfl (by omega)) (ltn rfl) ?_
      refine HO.gdo rfl rfl rfl rfl ?_
      refine HO.v (V.eqlI rfl rfl) (ltn rfl) ?_
      refine HO.v (V.pickT rfl rfl) (ltn rfl) ?_
      refine HO.nil ?_
      refine HQ.next ?_
      refine H.condB rfl (fun h14 => ?_) (fun h14 => ?_)
      · skip
        try simp only [decide_eq_true_eq, decide_eq_false_iff_not, Bool.not_eq_true', Bool.not_eq_false'] at h14
        refine H.skip ?_
        refine HQ.next ?_
        refine H.seq ?_
        refine H.block ?_
        refine H.region ?_
        refine HO.v (V.move rfl) (ltn rfl) ?_
        refine HO.v (V.add rfl rfl (by omega)) (ltn rfl) ?_
        refine HO.v (V.assign rfl) (ltn rfl) ?_
        refine HO.nil ?_
        refine HQ.block_normal ?_
        refine HQ.next ?_
        refine H.region ?_
        refine HO.v (V.move rfl) (ltn rfl) ?_
        refine HO.v (V.quo rfl rfl (by omega) (by omega)) (ltn rfl) ?_
        refine HO.v (V.assign rfl) (ltn rfl) ?_
        refine HO.nil ?_
        refine HQ.round ((two + 1, n.tdiv 2)) ?_ ?_ ?_
        · exact (have q := hq g10 h14; ⟨q.1, q.2.1, by dsimp only; omega, by dsimp only; omega⟩)
        · (have q := hq g10 h14; dsimp only; omega)
        · skip
          exact HQ.fits (.cons rfl (.cons rfl (.cons rfl (.cons rfl (.nil))))) (by exact Rems.cons (by exact .here) (Rems.cons (by exact .here) (Rems.nil)))
      · skip
        try simp only [decide_eq_true_eq, decide_eq_false_iff_not, Bool.not_eq_true', Bool.not_eq_false'] at h14
        refine H.exit ?_
        refine HQ.then_exit ?_
        refine HQ.then_exit ?_
        refine HQ.exit_hit ?_
        refine HQ.cut ((two, n)) ?_ ?_
        · exact ⟨⟨hcn, h9⟩, by first | (intro e; exact absurd e.2 h14) | (intro e; exact absurd e.1 g10)⟩
        · skip
          exact HQ.fits (.cons rfl (.cons rfl (.cons rfl (.nil)))) (by exact Rems.cons (by exact .here) (Rems.cons (by exact .here) (Rems.nil)))
    · skip
      try simp only [decide_eq_true_eq, decide_eq_false_iff_not, Bool.not_eq_true', Bool.not_eq_false'] at g10
      refine HO.gskip rfl rfl rfl rfl (ltn rfl) ?_
      refine HO.gskip rfl rfl rfl rfl (ltn rfl) ?_
      refine HO.gskip rfl rfl rfl rfl (ltn rfl) ?_
      refine HO.v (V.pickF rfl rfl) (ltn rfl) ?_
      refine HO.nil ?_
      refine HQ.next ?_
      refine H.condF rfl rfl ?_
      refine H.exit ?_
      refine HQ.then_exit ?_
      refine HQ.then_exit ?_
      refine HQ.exit_hit ?_
      refine HQ.cut ((two, n)) ?_ ?_
      · exact ⟨⟨hcn, h9⟩, by first | (intro e; exact absurd e.2 h14) | (intro e; exact absurd e.1 g10)⟩
      · skip
        exact HQ.fits (.cons rfl (.cons rfl (.cons rfl (.nil)))) (by exact Rems.cons (by exact .here) (Rems.cons (by exact .here) (Rems.nil)))
  rintro ⟨two, n⟩ ⟨⟨hcn, h9⟩, hno⟩
  dsimp only at hcn h9 hno ⊢
  refine H.cut (σ := Nat × Bool) (fun s => [(1, .pointer (some ⟨b1, 0, none⟩)), (2, .pointer (some ⟨b2, 0, none⟩)), (3, .int .i64 ((s.1 : Nat) : Int)), (5, .bool s.2)]) (fun s => [cellsCh b2 26 [.int .i64 0, .int .i64 0, .int .i64 0, .int .i64 0, .int .i64 0], cellsCh b1 26 [.int .i64 i.op, .int .i64 i.to, .int .i64 i.a, .int .i64 i.b, .int .i64 i.c]]) (fun s => (s.2 = true → pow2 i.c ≠ 0 ∧ pow2 i.c = s.1) ∧ (s.2 = false → pow2 i.c = 0)) ?_ ?_
  · skip
    refine H.draws (.cons (i := 0) rfl (.cons (i := 1) rfl (.nil))) (by kernel_rfl) ?_
    refine HA.take (i := 0) rfl rfl (ltn rfl) (by kernel_rfl) (by kernel_rfl) (by kernel_rfl) (gives_of want_none (V.fieldAddr (fs := #[]) fa26_4 rfl)) (.cons (by exact (.head _)) (.cons (by exact (.tail _ (.head _))) (Sub.nil))) rfl ?_
    refine HA.take (i := 1) rfl rfl (ltn rfl) (by kernel_rfl) (by kernel_rfl) (by kernel_rfl) (gives_of want_none (V.load sc3 rfl (by exact .mk (.there .here) rfl))) (.cons (by exact (.head _)) (.cons (by exact (.tail _ (.head _))) (Sub.nil))) rfl ?_
    refine HA.take (i := 2) rfl rfl (ltn rfl) (by kernel_rfl) (by kernel_rfl) (by kernel_rfl) (gives_of want_none (V.gtr rfl rfl)) (.cons (by exact (.head _)) (.cons (by exact (.tail _ (.head _))) (Sub.nil))) rfl ?_
    refine HA.take (i := 3) rfl rfl (ltn rfl) (by kernel_rfl) (by kernel_rfl) (by kernel_rfl) (gives_of want_none (V.move rfl)) (.cons (by exact (.head _)) (.cons (by exact (.tail _ (.head _))) (Sub.nil))) rfl ?_
    refine HA.part (t := 22) rfl (fun g22 => ?_) (fun g22 => ?_)
    · skip
      try simp only [decide_eq_true_eq, decide_eq_false_iff_not, Bool.not_eq_true', Bool.not_eq_false'] at g22
      refine HA.take (i := 4) rfl rfl (ltn rfl) (by kernel_rfl) (by kernel_rfl) (by kernel_rfl) (gives_of (want_some rfl rfl rfl rfl) (V.fieldAddr (fs := #[]) fa26_4 rfl)) (.cons (by exact (.head _)) (.cons (by exact (.tail _ (.head _))) (Sub.nil))) rfl ?_
      refine HA.take (i := 5) rfl rfl (ltn rfl) (by kernel_rfl) (by kernel_rfl) (by kernel_rfl) (gives_of (want_some rfl rfl rfl rfl) (V.load sc3 rfl (by exact .mk (.there .here) rfl))) (.cons (by exact (.head _)) (.cons (by exact (.tail _ (.head _))) (Sub.nil))) rfl ?_
      refine HA.take (i := 6) rfl rfl (ltn rfl) (by kernel_rfl) (by kernel_rfl) (by kernel_rfl) (gives_of (want_some rfl rfl rfl rfl) (V.move rfl)) (.cons (by exact (.head _)) (.cons (by exact (.tail _ (.head _))) (Sub.nil))) rfl ?_
      refine HA.take (i := 7) rfl rfl (ltn rfl) (by kernel_rfl) (by kernel_rfl) (by kernel_rfl) (gives_of (want_some rfl rfl rfl rfl) (V.shl rfl rfl (by omega))) (.cons (by exact (.head _)) (.cons (by exact (.tail _ (.head _))) (Sub.nil))) rfl ?_
      rw [shl_two h9]
      refine HA.take (i := 8) rfl rfl (ltn rfl) (by kernel_rfl) (by kernel_rfl) (by kernel_rfl) (gives_of (want_some rfl rfl rfl rfl) (V.eqlI rfl rfl)) (.cons (by exact (.head _)) (.cons (by exact (.tail _ (.head _))) (Sub.nil))) rfl ?_
      refine HA.take (i := 9) rfl rfl (ltn rfl) (by kernel_rfl) (by kernel_rfl) (by kernel_rfl) (gives_of want_none (V.pickT rfl rfl)) (.cons (by exact (.head _)) (.cons (by exact (.tail _ (.head _))) (Sub.nil))) rfl ?_
      refine HA.take (i := 10) rfl rfl (ltn rfl) (by kernel_rfl) (by kernel_rfl) (by kernel_rfl) (gives_of want_none (V.assign rfl)) (.cons (by exact (.head _)) (.cons (by exact (.tail _ (.head _))) (Sub.nil))) rfl ?_
      refine HA.done (by kernel_rfl) ?_
      refine HQ.cut ((two, decide (i.c = 2 ^ two))) ?_ ?_
      · exact ⟨fun e => twos_yes hc hcn h9 hno g22 (by simpa using e), fun e => twos_no hc hcn h9 hno (fun q => (by simp [q.2] at e))⟩
      · skip
        exact HQ.fits (.cons rfl (.cons rfl (.cons rfl (.cons rfl (.nil))))) (by exact Rems.cons (by exact .here) (Rems.cons (by exact .here) (Rems.nil)))
    · skip
      try simp only [decide_eq_true_eq, decide_eq_false_iff_not, Bool.not_eq_true', Bool.not_eq_false'] at g22
      refine HA.take (i := 4) rfl rfl (ltn rfl) (by kernel_rfl) (by kernel_rfl) (by kernel_rfl) (gives_not (want_not rfl rfl rfl rfl)) (.cons (by exact (.head _)) (.cons (by exact (.tail _ (.head _))) (Sub.nil))) rfl ?_
      refine HA.take (i := 5) rfl rfl (ltn rfl) (by kernel_rfl) (by kernel_rfl) (by kernel_rfl) (gives_not (want_not rfl rfl rfl rfl)) (.cons (by exact (.head _)) (.cons (by exact (.tail _ (.head _))) (Sub.nil))) rfl ?_
      refine HA.take (i := 6) rfl rfl (ltn rfl) (by kernel_rfl) (by kernel_rfl) (by kernel_rfl) (gives_not (want_not rfl rfl rfl rfl)) (.cons (by exact (.head _)) (.cons (by exact (.tail _ (.head _))) (Sub.nil))) rfl ?_
      refine HA.take (i := 7) rfl rfl (ltn rfl) (by kernel_rfl) (by kernel_rfl) (by kernel_rfl) (gives_not (want_not rfl rfl rfl rfl)) (.cons (by exact (.head _)) (.cons (by exact (.tail _ (.head _))) (Sub.nil))) rfl ?_
      refine HA.take (i := 8) rfl rfl (ltn rfl) (by kernel_rfl) (by kernel_rfl) (by kernel_rfl) (gives_not (want_not rfl rfl rfl rfl)) (.cons (by exact (.head _)) (.cons (by exact (.tail _ (.head _))) (Sub.nil))) rfl ?_
      refine HA.take (i := 9) rfl rfl (ltn rfl) (by kernel_rfl) (by kernel_rfl) (by kernel_rfl) (gives_of want_none (V.pickF rfl rfl)) (.cons (by exact (.head _)) (.cons (by exact (.tail _ (.head _))) (Sub.nil))) rfl ?_
      refine HA.take (i := 10) rfl rfl (ltn rfl) (by kernel_rfl) (by kernel_rfl) (by kernel_rfl) (gives_of want_none (V.assign rfl)) (.cons (by exact (.head _)) (.cons (by exact (.tail _ (.head _))) (Sub.nil))) rfl ?_
      refine HA.done (by kernel_rfl) ?_
      refine HQ.cut ((two, false)) ?_ ?_
      · exact ⟨fun e => (by cases e), fun e => twos_no hc hcn h9 hno (fun q => g22 q.1)⟩
      · skip
        exact HQ.fits (.cons rfl (.cons rfl (.cons rfl (.cons rfl (.nil))))) (by exact Rems.cons (by exact .here) (Rems.cons (by exact .here) (Rems.nil)))
  rintro ⟨two, p⟩ ⟨hy, hz⟩
  dsimp only at hy hz ⊢
  have hk : (p = true ∧ pow2 i.c ≠ 0 ∧ pow2 i.c = two) ∨ (p = false ∧ pow2 i.c = 0) := by (cases p; exact .inr ⟨rfl, hz rfl⟩; exact .inl ⟨rfl, hy rfl⟩)
  refine H.seq ?_
  refine H.block ?_
  refine H.seq ?_
  refine H.region ?_
  refine HO.v (V.fieldAddr (fs := #[]) fa26_0 rfl) (ltn rfl) ?_
  refine HO.v (V.load sc3 rfl (by exact .mk (.there .here) rfl)) (ltn rfl) ?_
  refine HO.v (V.eqlI rfl rfl) (ltn rfl) ?_
  refine HO.v (V.move rfl) (ltn rfl) ?_
  refine HO.setF (t := 33) rfl (by simp [ho]) ?_
  refine HO.gdo rfl rfl rfl rfl ?_
  refine HO.v (V.fieldAddr (fs := #[]) fa26_0 rfl) (ltn rfl) ?_
  refine HO.gdo rfl rfl rfl rfl ?_
  refine HO.v (V.load sc3 rfl (by exact .mk (.there .here) rfl)) (ltn rfl) ?_
  refine HO.gdo rfl rfl rfl rfl ?_
  refine HO.v (V.eqlI rfl rfl) (ltn rfl) ?_
  refine HO.v (V.pickF rfl rfl) (ltn rfl) ?_
  refine HO.v (V.move rfl) (ltn rfl) ?_
  refine HO.setT (t := 38) rfl (by simp [ho]) ?_
  refine HO.gdo rfl rfl rfl rfl ?_
  refine HO.v (V.fieldAddr (fs := #[]) fa26_4 rfl) (ltn rfl) ?_
  refine HO.gdo rfl rfl rfl rfl ?_
  refine HO.v (V.load sc3 rfl (by exact .mk (.there .here) rfl)) (ltn rfl) ?_
  refine HO.gdo rfl rfl rfl rfl ?_
  refine HO.v (V.eqlI rfl rfl) (ltn rfl) ?_
  refine HO.v (V.pickT rfl rfl) (ltn rfl) ?_
  refine HO.v (V.assign rfl) (ltn rfl) ?_
  refine HO.nil ?_
  refine HQ.keep (.cons (t := 1) rfl (.cons (t := 2) rfl (.cons (t := 3) rfl (.cons (t := 5) rfl (.cons (t := 29) rfl (.nil)))))) ?_
  refine HQ.next ?_
  refine H.condB rfl (fun h29 => ?_) (fun h29 => ?_)
  · skip
    try simp only [decide_eq_true_eq, decide_eq_false_iff_not, Bool.not_eq_true', Bool.not_eq_false'] at h29
    refine H.seq ?_
    refine H.region ?_
    refine HO.v (V.fieldAddr (fs := #[]) fa26_1 rfl) (ltn rfl) ?_
    refine HO.v (V.load sc3 rfl (by exact .mk (.there .here) rfl)) (ltn rfl) ?_
    refine HO.v (V.fieldAddr (fs := #[]) fa26_2 rfl) (ltn rfl) ?_
    refine HO.v (V.load sc3 rfl (by exact .mk (.there .here) rfl)) (ltn rfl) ?_
    refine HO.v (V.build ze26 pl26 rfl (.cons rfl (.cons rfl (.cons rfl (.nil)))) (.cons rfl rfl rfl (by repeat constructor) (.cons rfl rfl rfl (by repeat constructor) (.cons rfl rfl rfl (by repeat constructor) (.nil))))) (ltn rfl) ?_
    refine HO.store sz26 rfl rfl rfl rfl rfl (by exact .mk .here (by repeat constructor)) ?_
    refine HO.nil ?_
    refine HQ.keep (.cons (t := 1) rfl (.cons (t := 2) rfl (.nil))) ?_
    refine HQ.next ?_
    refine H.ret ?_
    refine HQ.block_ret ?_
    refine HQ.then_ret ?_
    refine HQ.end_ rfl rfl rfl rfl (.inl rfl) _ (fun a w s => resR1 Tryd.results12 s (.agg ag26 rfl (by exact .mk .here (by repeat constructor)))) ?_
    refine ⟨_, _, .nil, ?_, rfl⟩
    unfold plain
    rcases hk with ⟨k1, k2, k3⟩ | ⟨k1, k2⟩
    all_goals first | ((repeat (first | rw [if_pos (by omega)] | rw [if_neg (by omega)])); first | done | rfl | (rw [k3]; done)) | (exfalso; clear hy hz hcn h9 hno; simp_all; done)
  · skip
    try simp only [decide_eq_true_eq, decide_eq_false_iff_not, Bool.not_eq_true', Bool.not_eq_false'] at h29
    refine H.seq ?_
    refine H.region ?_
    refine HO.v (V.fieldAddr (fs := #[]) fa26_0 rfl) (ltn rfl) ?_
    refine HO.v (V.load sc3 rfl (by exact .mk (.there .here) rfl)) (ltn rfl) ?_
    refine HO.v (V.eqlI rfl rfl) (ltn rfl) ?_
    refine HO.v (V.move rfl) (ltn rfl) ?_
    refine HO.setF (t := 52) rfl (by simp [ho]) ?_
    refine HO.gdo rfl rfl rfl rfl ?_
    refine HO.v (V.fieldAddr (fs := #[]) fa26_0 rfl) (ltn rfl) ?_
    refine HO.gdo rfl rfl rfl rfl ?_
    refine HO.v (V.load sc3 rfl (by exact .mk (.there .here) rfl)) (ltn rfl) ?_
    refine HO.gdo rfl rfl rfl rfl ?_
    refine HO.v (V.eqlI rfl rfl) (ltn rfl) ?_
    refine HO.v (V.pickF rfl rfl) (ltn rfl) ?_
    refine HO.v (V.move rfl) (ltn rfl) ?_
    refine HO.setT (t := 57) rfl (by simp [ho]) ?_
    refine HO.gdo rfl rfl rfl rfl ?_
    refine HO.v (V.fieldAddr (fs := #[]) fa26_4 rfl) (ltn rfl) ?_
    refine HO.gdo rfl rfl rfl rfl ?_
    refine HO.v (V.load sc3 rfl (by exact .mk (.there .here) rfl)) (ltn rfl) ?_
    refine HO.gdo rfl rfl rfl rfl ?_
    refine HO.v (V.eqlI rfl rfl) (ltn rfl) ?_
    refine HO.v (V.pickT rfl rfl) (ltn rfl) ?_
    refine HO.v (V.assign rfl) (ltn rfl) ?_
    refine HO.nil ?_
    refine HQ.keep (.cons (t := 1) rfl (.cons (t := 2) rfl (.cons (t := 3) rfl (.cons (t := 5) rfl (.cons (t := 48) rfl (.nil)))))) ?_
    refine HQ.next ?_
    refine H.condB rfl (fun h48 => ?_) (fun h48 => ?_)
    · skip
      try simp only [decide_eq_true_eq, decide_eq_false_iff_not, Bool.not_eq_true', Bool.not_eq_false'] at h48
      refine H.seq ?_
      refine H.region ?_
      refine HO.v (V.fieldAddr (fs := #[]) fa26_1 rfl) (ltn rfl) ?_
      refine HO.v (V.load sc3 rfl (by exact .mk (.there .here) rfl)) (ltn rfl) ?_
      refine HO.v (V.fieldAddr (fs := #[]) fa26_2 rfl) (ltn rfl) ?_
      refine HO.v (V.load sc3 rfl (by exact .mk (.there .here) rfl)) (ltn rfl) ?_
      refine HO.v (V.build ze26 pl26 rfl (.cons rfl (.cons rfl (.cons rfl (.nil)))) (.cons rfl rfl rfl (by repeat constructor) (.cons rfl rfl rfl (by repeat constructor) (.cons rfl rfl rfl (by repeat constructor) (.nil))))) (ltn rfl) ?_
      refine HO.store sz26 rfl rfl rfl rfl rfl (by exact .mk .here (by repeat constructor)) ?_
      refine HO.nil ?_
      refine HQ.keep (.cons (t := 1) rfl (.cons (t := 2) rfl (.nil))) ?_
      refine HQ.next ?_
      refine H.ret ?_
      refine HQ.block_ret ?_
      refine HQ.then_ret ?_
      refine HQ.end_ rfl rfl rfl rfl (.inl rfl) _ (fun a w s => resR1 Tryd.results12 s (.agg ag26 rfl (by exact .mk .here (by repeat constructor)))) ?_
      refine ⟨_, _, .nil, ?_, rfl⟩
      unfold plain
      rcases hk with ⟨k1, k2, k3⟩ | ⟨k1, k2⟩
      all_goals first | ((repeat (first | rw [if_pos (by omega)] | rw [if_neg (by omega)])); first | done | rfl | (rw [k3]; done)) | (exfalso; clear hy hz hcn h9 hno; simp_all; done)
    · skip
      try simp only [decide_eq_true_eq, decide_eq_false_iff_not, Bool.not_eq_true', Bool.not_eq_false'] at h48
      refine H.seq ?_
      refine H.region ?_
      refine HO.v (V.fieldAddr (fs := #[]) fa26_0 rfl) (ltn rfl) ?_
      refine HO.v (V.load sc3 rfl (by exact .mk (.there .here) rfl)) (ltn rfl) ?_
      refine HO.v (V.eqlI rfl rfl) (ltn rfl) ?_
      refine HO.v (V.move rfl) (ltn rfl) ?_
      refine HO.setF (t := 71) rfl (by simp [ho]) ?_
      refine HO.gskip rfl rfl rfl rfl (ltn rfl) ?_
      refine HO.v (V.pickF rfl rfl) (ltn rfl) ?_
      refine HO.v (V.assign rfl) (ltn rfl) ?_
      refine HO.nil ?_
      refine HQ.keep (.cons (t := 1) rfl (.cons (t := 2) rfl (.cons (t := 3) rfl (.cons (t := 5) rfl (.cons (t := 67) rfl (.nil)))))) ?_
      refine HQ.next ?_
      refine H.condF rfl rfl ?_
      refine H.seq ?_
      refine H.region ?_
      refine HO.v (V.fieldAddr (fs := #[]) fa26_0 rfl) (ltn rfl) ?_
      refine HO.v (V.load sc3 rfl (by exact .mk (.there .here) rfl)) (ltn rfl) ?_
      refine HO.v (V.eqlI rfl rfl) (ltn rfl) ?_
      refine HO.v (V.move rfl) (ltn rfl) ?_
      refine HO.setT (t := 84) rfl (by simp [ho]) ?_
      refine HO.gdo rfl rfl rfl rfl ?_
      refine HO.v (V.move rfl) (ltn rfl) ?_
      refine HO.v (V.pickT rfl rfl) (ltn rfl) ?_
      refine HO.v (V.assign rfl) (ltn rfl) ?_
      refine HO.nil ?_
      refine HQ.keep (.cons (t := 1) rfl (.cons (t := 2) rfl (.cons (t := 3) rfl (.cons (t := 80) rfl (.nil))))) ?_
      refine HQ.next ?_
      refine H.condB rfl (fun h80 => ?_) (fun h80 => ?_)
      · skip
        try simp only [decide_eq_true_eq, decide_eq_false_iff_not, Bool.not_eq_true', Bool.not_eq_false'] at h80
        refine H.seq ?_
        refine H.region ?_
        refine HO.v (V.fieldAddr (fs := #[]) fa26_1 rfl) (ltn rfl) ?_
        refine HO.v (V.load sc3 rfl (by exact .mk (.there .here) rfl)) (ltn rfl) ?_
        refine HO.v (V.fieldAddr (fs := #[]) fa26_2 rfl) (ltn rfl) ?_
        refine HO.v (V.load sc3 rfl (by exact .mk (.there .here) rfl)) (ltn rfl) ?_
        refine HO.v (V.move rfl) (ltn rfl) ?_
        refine HO.v (V.build ze26 pl26 rfl (.cons rfl (.cons rfl (.cons rfl (.cons rfl (.nil))))) (.cons rfl rfl rfl (by repeat constructor) (.cons rfl rfl rfl (by repeat constructor) (.cons rfl rfl rfl (by repeat constructor) (.cons rfl rfl rfl (by repeat constructor) (.nil)))))) (ltn rfl) ?_
        refine HO.store sz26 rfl rfl rfl rfl rfl (by exact .mk .here (by repeat constructor)) ?_
        refine HO.nil ?_
        refine HQ.keep (.cons (t := 1) rfl (.cons (t := 2) rfl (.nil))) ?_
        refine HQ.next ?_
        refine H.ret ?_
        refine HQ.block_ret ?_
        refine HQ.then_ret ?_
        refine HQ.end_ rfl rfl rfl rfl (.inl rfl) _ (fun a w s => resR1 Tryd.results12 s (.agg ag26 rfl (by exact .mk .here (by repeat constructor)))) ?_
        refine ⟨_, _, .nil, ?_, rfl⟩
        unfold plain
        rcases hk with ⟨k1, k2, k3⟩ | ⟨k1, k2⟩
        all_goals first | ((repeat (first | rw [if_pos (by omega)] | rw [if_neg (by omega)])); first | done | rfl | (rw [k3]; done)) | (exfalso; clear hy hz hcn h9 hno; simp_all; done)
      · skip
        try simp only [decide_eq_true_eq, decide_eq_false_iff_not, Bool.not_eq_true', Bool.not_eq_false'] at h80
        refine H.seq ?_
        refine H.region ?_
        refine HO.v (V.fieldAddr (fs := #[]) fa26_0 rfl) (ltn rfl) ?_
        refine HO.v (V.load sc3 rfl (by exact .mk (.there .here) rfl)) (ltn rfl) ?_
        refine HO.v (V.eqlI rfl rfl) (ltn rfl) ?_
        refine HO.v (V.move rfl) (ltn rfl) ?_
        refine HO.setF (t := 97) rfl (by simp [ho]) ?_
        refine HO.gskip rfl rfl rfl rfl (ltn rfl) ?_
        refine HO.gskip rfl rfl rfl rfl (ltn rfl) ?_
        refine HO.gskip rfl rfl rfl rfl (ltn rfl) ?_
        refine HO.gskip rfl rfl rfl rfl (ltn rfl) ?_
        refine HO.gskip rfl rfl rfl rfl (ltn rfl) ?_
        refine HO.v (V.pickF rfl rfl) (ltn rfl) ?_
        refine HO.v (V.assign rfl) (ltn rfl) ?_
        refine HO.nil ?_
        refine HQ.keep (.cons (t := 1) rfl (.cons (t := 2) rfl (.cons (t := 93) rfl (.nil)))) ?_
        refine HQ.next ?_
        refine H.condF rfl rfl ?_
        refine H.skip ?_
        refine HQ.block_normal ?_
        refine HQ.next ?_
        refine H.seq ?_
        refine H.region ?_
        refine HO.v (V.loadA ag26 rfl (by exact .mk (.there .here) (by repeat constructor))) (ltn rfl) ?_
        refine HO.store sz26 rfl rfl rfl rfl rfl (by exact .mk .here (by repeat constructor)) ?_
        refine HO.nil ?_
        refine HQ.next ?_
        refine H.ret ?_
        refine HQ.end_ rfl rfl rfl rfl (.inl rfl) _ (fun a w s => resR1 Tryd.results12 s (.agg ag26 rfl (by exact .mk .here (by repeat constructor)))) ?_
        refine ⟨_, _, .nil, ?_, rfl⟩
        unfold plain
        rcases hk with ⟨k1, k2, k3⟩ | ⟨k1, k2⟩
        all_goals first | ((repeat (first | rw [if_pos (by omega)] | rw [if_neg (by omega)])); first | done | rfl | (rw [k3]; done)) | (exfalso; clear hy hz hcn h9 hno; simp_all; done)
theorem plain13_3 (i : Ins) (hc : -512 ≤ i.c ∧ i.c ≤ 512) (ho : i.op = 3) :
    Tri Tryd.prog 12 #[vIn i] [] [] (fun v L' => v = vIn (plain i) ∧ L' = []) := by
  refine Tri.of' 110 [vIn i] [(0, vIn i)] Tryd.func12 Tryd.ntmps12 rfl rfl rfl ?_
  intro w0
  refine H.seq ?_
  refine H.region ?_
  refine HO.box rfl rfl (ltn rfl) ?_
  intro b1
  refine HO.alloc ze26 rfl (ltn rfl) ?_
  intro b2
  refine HO.nil ?_
  refine HQ.next ?_
  refine H.seq ?_
  refine H.region ?_
  refine HO.v (V.assign rfl) (ltn rfl) ?_
  refine HO.nil ?_
  refine HQ.next ?_
  refine H.cut (σ := Nat × Int) (fun s => [(1, .pointer (some ⟨b1, 0, none⟩)), (2, .pointer (some ⟨b2, 0, none⟩)), (3, .int .i64 ((s.1 : Nat) : Int))]) (fun s => [cellsCh b2 26 [.int .i64 0, .int .i64 0, .int .i64 0, .int .i64 0, .int .i64 0], cellsCh b1 26 [.int .i64 i.op, .int .i64 i.to, .int .i64 i.a, .int .i64 i.b, .int .i64 i.c]]) (fun s => (i.c = s.2 * 2 ^ s.1 ∧ s.1 ≤ 9) ∧ ¬ (1 < s.2 ∧ s.2.tmod 2 = 0)) ?_ ?_
  · skip
    refine H.seq ?_
    refine H.region ?_
    refine HO.v (V.fieldAddr (fs := #[]) fa26_4 rfl) (ltn rfl) ?_
    refine HO.v (V.load sc3 rfl (by exact .mk (.there .here) rfl)) (ltn rfl) ?_
    refine HO.v (V.assign rfl) (ltn rfl) ?_
    refine HO.nil ?_
    refine HQ.keep (.cons (t := 1) rfl (.cons (t := 2) rfl (.cons (t := 3) rfl (.cons (t := 4) rfl (.nil))))) ?_
    refine HQ.next ?_
    refine H.block ?_
    refine H.loop (σ := Nat × Int) (fun s => s.2.toNat) (fun s => [(1, .pointer (some ⟨b1, 0, none⟩)), (2, .pointer (some ⟨b2, 0, none⟩)), (3, .int .i64 ((s.1 : Nat) : Int)), (4, .int .i64 s.2)]) (fun s => [cellsCh b2 26 [.int .i64 0, .int .i64 0, .int .i64 0, .int .i64 0, .int .i64 0], cellsCh b1 26 [.int .i64 i.op, .int .i64 i.to, .int .i64 i.a, .int .i64 i.b, .int .i64 i.c]]) (fun s => i.c = s.2 * 2 ^ s.1 ∧ s.1 ≤ 9 ∧ -512 ≤ s.2 ∧ s.2 ≤ 512) ((0, i.c)) ?_ ?_ ?_
    · exact ⟨by simp, by omega, hc⟩
    · skip
      exact HQ.fits (.cons rfl (.cons rfl (.cons rfl (.cons rfl (.nil))))) (by exact Rems.cons (by exact .here) (Rems.cons (by exact .here) (Rems.nil)))
    intro s hI
    obtain ⟨two, n⟩ := s
    obtain ⟨hcn, h9, hnb⟩ := hI
    dsimp only at hcn h9 hnb ⊢
    have hq : 1 < n → n.tmod 2 = 0 → _ := fun u1 u2 => twos_round hc hcn h9 u1 u2
    have q2 := tdivL_bd 2 (c := n) (by omega)
    refine H.seq ?_
    refine H.seq ?_
    refine H.region ?_
    refine HO.v (V.move rfl) (ltn rfl) ?_
    refine HO.v (V.gtr rfl rfl) (ltn rfl) ?_
    refine HO.v (V.move rfl) (ltn rfl) ?_
    refine HO.part (t := 10) rfl (fun g10 => ?_) (fun g10 => ?_)
    · skip
      try simp only [decide_eq_true_eq, decide_eq_false_iff_not, Bool.not_eq_true', Bool.not_eq_false'] at g10
      refine HO.gdo rfl rfl rfl rfl ?_
      refine HO.v (V.move rfl) (ltn rfl) ?_
      refine HO.gdo rfl rfl rfl rfl ?_
      refine HO.v (V.rem rfl rfl (by omega)) (ltn rfl) ?_
      refine HO.gdo rfl rfl rfl rfl ?_
      refine HO.v (V.eqlI rfl rfl) (ltn rfl) ?_
      refine HO.v (V.pickT rfl rfl) (ltn rfl) ?_
      refine HO.nil ?_
      refine HQ.next ?_
      refine H.condB rfl (fun h14 => ?_) (fun h14 => ?_)
      · skip
        try simp only [decide_eq_true_eq, decide_eq_false_iff_not, Bool.not_eq_true', Bool.not_eq_false'] at h14
        refine H.skip ?_
        refine HQ.next ?_
        refine H.seq ?_
        refine H.block ?_
        refine H.region ?_
        refine HO.v (V.move rfl) (ltn rfl) ?_
        refine HO.v (V.add rfl rfl (by omega)) (ltn rfl) ?_
        refine HO.v (V.assign rfl) (ltn rfl) ?_
        refine HO.nil ?_
        refine HQ.block_normal ?_
        refine HQ.next ?_
        refine H.region ?_
        refine HO.v (V.move rfl) (ltn rfl) ?_
        refine HO.v (V.quo rfl rfl (by omega) (by omega)) (ltn rfl) ?_
        refine HO.v (V.assign rfl) (ltn rfl) ?_
        refine HO.nil ?_
        refine HQ.round ((two + 1, n.tdiv 2)) ?_ ?_ ?_
        · exact (have q := hq g10 h14; ⟨q.1, q.2.1, by dsimp only; omega, by dsimp only; omega⟩)
        · (have q := hq g10 h14; dsimp only; omega)
        · skip
          exact HQ.fits (.cons rfl (.cons rfl (.cons rfl (.cons rfl (.nil))))) (by exact Rems.cons (by exact .here) (Rems.cons (by exact .here) (Rems.nil)))
      · skip
        try simp only [decide_eq_true_eq, decide_eq_false_iff_not, Bool.not_eq_true', Bool.not_eq_false'] at h14
        refine H.exit ?_
        refine HQ.then_exit ?_
        refine HQ.then_exit ?_
        refine HQ.exit_hit ?_
        refine HQ.cut ((two, n)) ?_ ?_
        · exact ⟨⟨hcn, h9⟩, by first | (intro e; exact absurd e.2 h14) | (intro e; exact absurd e.1 g10)⟩
        · skip
          exact HQ.fits (.cons rfl (.cons rfl (.cons rfl (.nil)))) (by exact Rems.cons (by exact .here) (Rems.cons (by exact .here) (Rems.nil)))
    · skip
      try simp only [decide_eq_true_eq, decide_eq_false_iff_not, Bool.not_eq_true', Bool.not_eq_false'] at g10
      refine HO.gskip rfl rfl rfl rfl (ltn rfl) ?_
      refine HO.gskip rfl rfl rfl rfl (ltn rfl) ?_
      refine HO.gskip rfl rfl rfl rfl (ltn rfl) ?_
      refine HO.v (V.pickF rfl rfl) (ltn rfl) ?_
      refine HO.nil ?_
      refine HQ.next ?_
      refine H.condF rfl rfl ?_
      refine H.exit ?_
      refine HQ.then_exit ?_
      refine HQ.then_exit ?_
      refine HQ.exit_hit ?_
      refine HQ.cut ((two, n)) ?_ ?_
      · exact ⟨⟨hcn, h9⟩, by first | (intro e; exact absurd e.2 h14) | (intro e; exact absurd e.1 g10)⟩
      · skip
        exact HQ.fits (.cons rfl (.cons rfl (.cons rfl (.nil)))) (by exact Rems.cons (by exact .here) (Rems.cons (by exact .here) (Rems.nil)))
  rintro ⟨two, n⟩ ⟨⟨hcn, h9⟩, hno⟩
  dsimp only at hcn h9 hno ⊢
  refine H.cut (σ := Nat × Bool) (fun s => [(1, .pointer (some ⟨b1, 0, none⟩)), (2, .pointer (some ⟨b2, 0, none⟩)), (3, .int .i64 ((s.1 : Nat) : Int)), (5, .bool s.2)]) (fun s => [cellsCh b2 26 [.int .i64 0, .int .i64 0, .int .i64 0, .int .i64 0, .int .i64 0], cellsCh b1 26 [.int .i64 i.op, .int .i64 i.to, .int .i64 i.a, .int .i64 i.b, .int .i64 i.c]]) (fun s => (s.2 = true → pow2 i.c ≠ 0 ∧ pow2 i.c = s.1) ∧ (s.2 = false → pow2 i.c = 0)) ?_ ?_
  · skip
    refine H.draws (.cons (i := 0) rfl (.cons (i := 1) rfl (.nil))) (by kernel_rfl) ?_
    refine HA.take (i := 0) rfl rfl (ltn rfl) (by kernel_rfl) (by kernel_rfl) (by kernel_rfl) (gives_of want_none (V.fieldAddr (fs := #[]) fa26_4 rfl)) (.cons (by exact (.head _)) (.cons (by exact (.tail _ (.head _))) (Sub.nil))) rfl ?_
    refine HA.take (i := 1) rfl rfl (ltn rfl) (by kernel_rfl) (by kernel_rfl) (by kernel_rfl) (gives_of want_none (V.load sc3 rfl (by exact .mk (.there .here) rfl))) (.cons (by exact (.head _)) (.cons (by exact (.tail _ (.head _))) (Sub.nil))) rfl ?_
    refine HA.take (i := 2) rfl rfl (ltn rfl) (by kernel_rfl) (by kernel_rfl) (by kernel_rfl) (gives_of want_none (V.gtr rfl rfl)) (.cons (by exact (.head _)) (.cons (by exact (.tail _ (.head _))) (Sub.nil))) rfl ?_
    refine HA.take (i := 3) rfl rfl (ltn rfl) (by kernel_rfl) (by kernel_rfl) (by kernel_rfl) (gives_of want_none (V.move rfl)) (.cons (by exact (.head _)) (.cons (by exact (.tail _ (.head _))) (Sub.nil))) rfl ?_
    refine HA.part (t := 22) rfl (fun g22 => ?_) (fun g22 => ?_)
    · skip
      try simp only [decide_eq_true_eq, decide_eq_false_iff_not, Bool.not_eq_true', Bool.not_eq_false'] at g22
      refine HA.take (i := 4) rfl rfl (ltn rfl) (by kernel_rfl) (by kernel_rfl) (by kernel_rfl) (gives_of (want_some rfl rfl rfl rfl) (V.fieldAddr (fs := #[]) fa26_4 rfl)) (.cons (by exact (.head _)) (.cons (by exact (.tail _ (.head _))) (Sub.nil))) rfl ?_
      refine HA.take (i := 5) rfl rfl (ltn rfl) (by kernel_rfl) (by kernel_rfl) (by kernel_rfl) (gives_of (want_some rfl rfl rfl rfl) (V.load sc3 rfl (by exact .mk (.there .here) rfl))) (.cons (by exact (.head _)) (.cons (by exact (.tail _ (.head _))) (Sub.nil))) rfl ?_
      refine HA.take (i := 6) rfl rfl (ltn rfl) (by kernel_rfl) (by kernel_rfl) (by kernel_rfl) (gives_of (want_some rfl rfl rfl rfl) (V.move rfl)) (.cons (by exact (.head _)) (.cons (by exact (.tail _ (.head _))) (Sub.nil))) rfl ?_
      refine HA.take (i := 7) rfl rfl (ltn rfl) (by kernel_rfl) (by kernel_rfl) (by kernel_rfl) (gives_of (want_some rfl rfl rfl rfl) (V.shl rfl rfl (by omega))) (.cons (by exact (.head _)) (.cons (by exact (.tail _ (.head _))) (Sub.nil))) rfl ?_
      rw [shl_two h9]
      refine HA.take (i := 8) rfl rfl (ltn rfl) (by kernel_rfl) (by kernel_rfl) (by kernel_rfl) (gives_of (want_some rfl rfl rfl rfl) (V.eqlI rfl rfl)) (.cons (by exact (.head _)) (.cons (by exact (.tail _ (.head _))) (Sub.nil))) rfl ?_
      refine HA.take (i := 9) rfl rfl (ltn rfl) (by kernel_rfl) (by kernel_rfl) (by kernel_rfl) (gives_of want_none (V.pickT rfl rfl)) (.cons (by exact (.head _)) (.cons (by exact (.tail _ (.head _))) (Sub.nil))) rfl ?_
      refine HA.take (i := 10) rfl rfl (ltn rfl) (by kernel_rfl) (by kernel_rfl) (by kernel_rfl) (gives_of want_none (V.assign rfl)) (.cons (by exact (.head _)) (.cons (by exact (.tail _ (.head _))) (Sub.nil))) rfl ?_
      refine HA.done (by kernel_rfl) ?_
      refine HQ.cut ((two, decide (i.c = 2 ^ two))) ?_ ?_
      · exact ⟨fun e => twos_yes hc hcn h9 hno g22 (by simpa using e), fun e => twos_no hc hcn h9 hno (fun q => (by simp [q.2] at e))⟩
      · skip
        exact HQ.fits (.cons rfl (.cons rfl (.cons rfl (.cons rfl (.nil))))) (by exact Rems.cons (by exact .here) (Rems.cons (by exact .here) (Rems.nil)))
    · skip
      try simp only [decide_eq_true_eq, decide_eq_false_iff_not, Bool.not_eq_true', Bool.not_eq_false'] at g22
      refine HA.take (i := 4) rfl rfl (ltn rfl) (by kernel_rfl) (by kernel_rfl) (by kernel_rfl) (gives_not (want_not rfl rfl rfl rfl)) (.cons (by exact (.head _)) (.cons (by exact (.tail _ (.head _))) (Sub.nil))) rfl ?_
      refine HA.take (i := 5) rfl rfl (ltn rfl) (by kernel_rfl) (by kernel_rfl) (by kernel_rfl) (gives_not (want_not rfl rfl rfl rfl)) (.cons (by exact (.head _)) (.cons (by exact (.tail _ (.head _))) (Sub.nil))) rfl ?_
      refine HA.take (i := 6) rfl rfl (ltn rfl) (by kernel_rfl) (by kernel_rfl) (by kernel_rfl) (gives_not (want_not rfl rfl rfl rfl)) (.cons (by exact (.head _)) (.cons (by exact (.tail _ (.head _))) (Sub.nil))) rfl ?_
      refine HA.take (i := 7) rfl rfl (ltn rfl) (by kernel_rfl) (by kernel_rfl) (by kernel_rfl) (gives_not (want_not rfl rfl rfl rfl)) (.cons (by exact (.head _)) (.cons (by exact (.tail _ (.head _))) (Sub.nil))) rfl ?_
      refine HA.take (i := 8) rfl rfl (ltn rfl) (by kernel_rfl) (by kernel_rfl) (by kernel_rfl) (gives_not (want_not rfl rfl rfl rfl)) (.cons (by exact (.head _)) (.cons (by exact (.tail _ (.head _))) (Sub.nil))) rfl ?_
      refine HA.take (i := 9) rfl rfl (ltn rfl) (by kernel_rfl) (by kernel_rfl) (by kernel_rfl) (gives_of want_none (V.pickF rfl rfl)) (.cons (by exact (.head _)) (.cons (by exact (.tail _ (.head _))) (Sub.nil))) rfl ?_
      refine HA.take (i := 10) rfl rfl (ltn rfl) (by kernel_rfl) (by kernel_rfl) (by kernel_rfl) (gives_of want_none (V.assign rfl)) (.cons (by exact (.head _)) (.cons (by exact (.tail _ (.head _))) (Sub.nil))) rfl ?_
      refine HA.done (by kernel_rfl) ?_
      refine HQ.cut ((two, false)) ?_ ?_
      · exact ⟨fun e => (by cases e), fun e => twos_no hc hcn h9 hno (fun q => g22 q.1)⟩
      · skip
        exact HQ.fits (.cons rfl (.cons rfl (.cons rfl (.cons rfl (.nil))))) (by exact Rems.cons (by exact .here) (Rems.cons (by exact .here) (Rems.nil)))
  rintro ⟨two, p⟩ ⟨hy, hz⟩
  dsimp only at hy hz ⊢
  have hk : (p = true ∧ pow2 i.c ≠ 0 ∧ pow2 i.c = two) ∨ (p = false ∧ pow2 i.c = 0) := by (cases p; exact .inr ⟨rfl, hz rfl⟩; exact .inl ⟨rfl, hy rfl⟩)
  refine H.seq ?_
  refine H.block ?_
  refine H.seq ?_
  refine H.region ?_
  refine HO.v (V.fieldAddr (fs := #[]) fa26_0 rfl) (ltn rfl) ?_
  refine HO.v (V.load sc3 rfl (by exact .mk (.there .here) rfl)) (ltn rfl) ?_
  refine HO.v (V.eqlI rfl rfl) (ltn rfl) ?_
  refine HO.v (V.move rfl) (ltn rfl) ?_
  refine HO.setF (t := 33) rfl (by simp [ho]) ?_
  refine HO.gdo rfl rfl rfl rfl ?_
  refine HO.v (V.fieldAddr (fs := #[]) fa26_0 rfl) (ltn rfl) ?_
  refine HO.gdo rfl rfl rfl rfl ?_
  refine HO.v (V.load sc3 rfl (by exact .mk (.there .here) rfl)) (ltn rfl) ?_
  refine HO.gdo rfl rfl rfl rfl ?_
  refine HO.v (V.eqlI rfl rfl) (ltn rfl) ?_
  refine HO.v (V.pickF rfl rfl) (ltn rfl) ?_
  refine HO.v (V.move rfl) (ltn rfl) ?_
  refine HO.setF (t := 38) rfl (by simp [ho]) ?_
  refine HO.gskip rfl rfl rfl rfl (ltn rfl) ?_
  refine HO.gskip rfl rfl rfl rfl (ltn rfl) ?_
  refine HO.gskip rfl rfl rfl rfl (ltn rfl) ?_
  refine HO.v (V.pickF rfl rfl) (ltn rfl) ?_
  refine HO.v (V.assign rfl) (ltn rfl) ?_
  refine HO.nil ?_
  refine HQ.keep (.cons (t := 1) rfl (.cons (t := 2) rfl (.cons (t := 3) rfl (.cons (t := 5) rfl (.cons (t := 29) rfl (.nil)))))) ?_
  refine HQ.next ?_
  refine H.condF rfl rfl ?_
  refine H.seq ?_
  refine H.region ?_
  refine HO.v (V.fieldAddr (fs := #[]) fa26_0 rfl) (ltn rfl) ?_
  refine HO.v (V.load sc3 rfl (by exact .mk (.there .here) rfl)) (ltn rfl) ?_
  refine HO.v (V.eqlI rfl rfl) (ltn rfl) ?_
  refine HO.v (V.move rfl) (ltn rfl) ?_
  refine HO.setF (t := 52) rfl (by simp [ho]) ?_
  refine HO.gdo rfl rfl rfl rfl ?_
  refine HO.v (V.fieldAddr (fs := #[]) fa26_0 rfl) (ltn rfl) ?_
  refine HO.gdo rfl rfl rfl rfl ?_
  refine HO.v (V.load sc3 rfl (by exact .mk (.there .here) rfl)) (ltn rfl) ?_
  refine HO.gdo rfl rfl rfl rfl ?_
  refine HO.v (V.eqlI rfl rfl) (ltn rfl) ?_
  refine HO.v (V.pickF rfl rfl) (ltn rfl) ?_
  refine HO.v (V.move rfl) (ltn rfl) ?_
  refine HO.setF (t := 57) rfl (by simp [ho]) ?_
  refine HO.gskip rfl rfl rfl rfl (ltn rfl) ?_
  refine HO.gskip rfl rfl rfl rfl (ltn rfl) ?_
  refine HO.gskip rfl rfl rfl rfl (ltn rfl) ?_
  refine HO.v (V.pickF rfl rfl) (ltn rfl) ?_
  refine HO.v (V.assign rfl) (ltn rfl) ?_
  refine HO.nil ?_
  refine HQ.keep (.cons (t := 1) rfl (.cons (t := 2) rfl (.cons (t := 3) rfl (.cons (t := 5) rfl (.cons (t := 48) rfl (.nil)))))) ?_
  refine HQ.next ?_
  refine H.condF rfl rfl ?_
  refine H.seq ?_
  refine H.region ?_
  refine HO.v (V.fieldAddr (fs := #[]) fa26_0 rfl) (ltn rfl) ?_
  refine HO.v (V.load sc3 rfl (by exact .mk (.there .here) rfl)) (ltn rfl) ?_
  refine HO.v (V.eqlI rfl rfl) (ltn rfl) ?_
  refine HO.v (V.move rfl) (ltn rfl) ?_
  refine HO.setF (t := 71) rfl (by simp [ho]) ?_
  refine HO.gskip rfl rfl rfl rfl (ltn rfl) ?_
  refine HO.v (V.pickF rfl rfl) (ltn rfl) ?_
  refine HO.v (V.assign rfl) (ltn rfl) ?_
  refine HO.nil ?_
  refine HQ.keep (.cons (t := 1) rfl (.cons (t := 2) rfl (.cons (t := 3) rfl (.cons (t := 5) rfl (.cons (t := 67) rfl (.nil)))))) ?_
  refine HQ.next ?_
  refine H.condF rfl rfl ?_
  refine H.seq ?_
  refine H.region ?_
  refine HO.v (V.fieldAddr (fs := #[]) fa26_0 rfl) (ltn rfl) ?_
  refine HO.v (V.load sc3 rfl (by exact .mk (.there .here) rfl)) (ltn rfl) ?_
  refine HO.v (V.eqlI rfl rfl) (ltn rfl) ?_
  refine HO.v (V.move rfl) (ltn rfl) ?_
  refine HO.setF (t := 84) rfl (by simp [ho]) ?_
  refine HO.gskip rfl rfl rfl rfl (ltn rfl) ?_
  refine HO.v (V.pickF rfl rfl) (ltn rfl) ?_
  refine HO.v (V.assign rfl) (ltn rfl) ?_
  refine HO.nil ?_
  refine HQ.keep (.cons (t := 1) rfl (.cons (t := 2) rfl (.cons (t := 3) rfl (.cons (t := 80) rfl (.nil))))) ?_
  refine HQ.next ?_
  refine H.condF rfl rfl ?_
  refine H.seq ?_
  refine H.region ?_
  refine HO.v (V.fieldAddr (fs := #[]) fa26_0 rfl) (ltn rfl) ?_
  refine HO.v (V.load sc3 rfl (by exact .mk (.there .here) rfl)) (ltn rfl) ?_
  refine HO.v (V.eqlI rfl rfl) (ltn rfl) ?_
  refine HO.v (V.move rfl) (ltn rfl) ?_
  refine HO.setT (t := 97) rfl (by simp [ho]) ?_
  refine HO.gdo rfl rfl rfl rfl ?_
  refine HO.v (V.fieldAddr (fs := #[]) fa26_2 rfl) (ltn rfl) ?_
  refine HO.gdo rfl rfl rfl rfl ?_
  refine HO.v (V.load sc3 rfl (by exact .mk (.there .here) rfl)) (ltn rfl) ?_
  refine HO.gdo rfl rfl rfl rfl ?_
  refine HO.v (V.fieldAddr (fs := #[]) fa26_3 rfl) (ltn rfl) ?_
  refine HO.gdo rfl rfl rfl rfl ?_
  refine HO.v (V.load sc3 rfl (by exact .mk (.there .here) rfl)) (ltn rfl) ?_
  refine HO.gdo rfl rfl rfl rfl ?_
  refine HO.v (V.eqlI rfl rfl) (ltn rfl) ?_
  refine HO.v (V.pickT rfl rfl) (ltn rfl) ?_
  refine HO.v (V.assign rfl) (ltn rfl) ?_
  refine HO.nil ?_
  refine HQ.keep (.cons (t := 1) rfl (.cons (t := 2) rfl (.cons (t := 93) rfl (.nil)))) ?_
  refine HQ.next ?_
  refine H.condB rfl (fun h93 => ?_) (fun h93 => ?_)
  · skip
    try simp only [decide_eq_true_eq, decide_eq_false_iff_not, Bool.not_eq_true', Bool.not_eq_false'] at h93
    refine H.seq ?_
    refine H.region ?_
    refine HO.v (V.fieldAddr (fs := #[]) fa26_1 rfl) (ltn rfl) ?_
    refine HO.v (V.load sc3 rfl (by exact .mk (.there .here) rfl)) (ltn rfl) ?_
    refine HO.v (V.fieldAddr (fs := #[]) fa26_2 rfl) (ltn rfl) ?_
    refine HO.v (V.load sc3 rfl (by exact .mk (.there .here) rfl)) (ltn rfl) ?_
    refine HO.v (V.build ze26 pl26 rfl (.cons rfl (.cons rfl (.cons rfl (.cons rfl (.nil))))) (.cons rfl rfl rfl (by repeat constructor) (.cons rfl rfl rfl (by repeat constructor) (.cons rfl rfl rfl (by repeat constructor) (.cons rfl rfl rfl (by repeat constructor) (.nil)))))) (ltn rfl) ?_
    refine HO.store sz26 rfl rfl rfl rfl rfl (by exact .mk .here (by repeat constructor)) ?_
    refine HO.nil ?_
    refine HQ.keep (.cons (t := 1) rfl (.cons (t := 2) rfl (.nil))) ?_
    refine HQ.next ?_
    refine H.ret ?_
    refine HQ.block_ret ?_
    refine HQ.then_ret ?_
    refine HQ.end_ rfl rfl rfl rfl (.inl rfl) _ (fun a w s => resR1 Tryd.results12 s (.agg ag26 rfl (by exact .mk .here (by repeat constructor)))) ?_
    refine ⟨_, _, .nil, ?_, rfl⟩
    unfold plain
    rcases hk with ⟨k1, k2, k3⟩ | ⟨k1, k2⟩
    all_goals first | ((repeat (first | rw [if_pos (by omega)] | rw [if_neg (by omega)])); first | done | rfl | (rw [k3]; done)) | (exfalso; clear hy hz hcn h9 hno; simp_all; done)
  · skip
    try simp only [decide_eq_true_eq, decide_eq_false_iff_not, Bool.not_eq_true', Bool.not_eq_false'] at h93
    refine H.skip ?_
    refine HQ.block_normal ?_
    refine HQ.next ?_
    refine H.seq ?_
    refine H.region ?_
    refine HO.v (V.loadA ag26 rfl (by exact .mk (.there .here) (by repeat constructor))) (ltn rfl) ?_
    refine HO.store sz26 rfl rfl rfl rfl rfl (by exact .mk .here (by repeat constructor)) ?_
    refine HO.nil ?_
    refine HQ.next ?_
    refine H.ret ?_
    refine HQ.end_ rfl rfl rfl rfl (.inl rfl) _ (fun a w s => resR1 Tryd.results12 s (.agg ag26 rfl (by exact .mk .here (by repeat constructor)))) ?_
    refine ⟨_, _, .nil, ?_, rfl⟩
    unfold plain
    rcases hk with ⟨k1, k2, k3⟩ | ⟨k1, k2⟩
    all_goals first | ((repeat (first | rw [if_pos (by omega)] | rw [if_neg (by omega)])); first | done | rfl | (rw [k3]; done)) | (exfalso; clear hy hz hcn h9 hno; simp_all; done)
theorem plain13_0 (i : Ins) (hc : -512 ≤ i.c ∧ i.c ≤ 512) (ho : i.op ≠ 3 ∧ i.op ≠ 5 ∧ i.op ≠ 6) :
    Tri Tryd.prog 12 #[vIn i] [] [] (fun v L' => v = vIn (plain i) ∧ L' = []) := by
  refine Tri.of' 110 [vIn i] [(0, vIn i)] Tryd.func12 Tryd.ntmps12 rfl rfl rfl ?_
  intro w0
  refine H.seq ?_
  refine H.region ?_
  refine HO.box rfl rfl (ltn rfl) ?_
  intro b1
  refine HO.alloc ze26 rfl (ltn rfl) ?_
  intro b2
  refine HO.nil ?_
  refine HQ.next ?_
  refine H.seq ?_
  refine H.region ?_
  refine HO.v (V.assign rfl) (ltn rfl) ?_
  refine HO.nil ?_
  refine HQ.next ?_
  refine H.cut (σ := Nat × Int) (fun s => [(1, .pointer (some ⟨b1, 0, none⟩)), (2, .pointer (some ⟨b2, 0, none⟩)), (3, .int .i64 ((s.1 : Nat) : Int))]) (fun s => [cellsCh b2 26 [.int .i64 0, .int .i64 0, .int .i64 0, .int .i64 0, .int .i64 0], cellsCh b1 26 [.int .i64 i.op, .int .i64 i.to, .int .i64 i.a, .int .i64 i.b, .int .i64 i.c]]) (fun s => (i.c = s.2 * 2 ^ s.1 ∧ s.1 ≤ 9) ∧ ¬ (1 < s.2 ∧ s.2.tmod 2 = 0)) ?_ ?_
  · skip
    refine H.seq ?_
    refine H.region ?_
    refine HO.v (V.fieldAddr (fs := #[]) fa26_4 rfl) (ltn rfl) ?_
    refine HO.v (V.load sc3 rfl (by exact .mk (.there .here) rfl)) (ltn rfl) ?_
    refine HO.v (V.assign rfl) (ltn rfl) ?_
    refine HO.nil ?_
    refine HQ.keep (.cons (t := 1) rfl (.cons (t := 2) rfl (.cons (t := 3) rfl (.cons (t := 4) rfl (.nil))))) ?_
    refine HQ.next ?_
    refine H.block ?_
    refine H.loop (σ := Nat × Int) (fun s => s.2.toNat) (fun s => [(1, .pointer (some ⟨b1, 0, none⟩)), (2, .pointer (some ⟨b2, 0, none⟩)), (3, .int .i64 ((s.1 : Nat) : Int)), (4, .int .i64 s.2)]) (fun s => [cellsCh b2 26 [.int .i64 0, .int .i64 0, .int .i64 0, .int .i64 0, .int .i64 0], cellsCh b1 26 [.int .i64 i.op, .int .i64 i.to, .int .i64 i.a, .int .i64 i.b, .int .i64 i.c]]) (fun s => i.c = s.2 * 2 ^ s.1 ∧ s.1 ≤ 9 ∧ -512 ≤ s.2 ∧ s.2 ≤ 512) ((0, i.c)) ?_ ?_ ?_
    · exact ⟨by simp, by omega, hc⟩
    · skip
      exact HQ.fits (.cons rfl (.cons rfl (.cons rfl (.cons rfl (.nil))))) (by exact Rems.cons (by exact .here) (Rems.cons (by exact .here) (Rems.nil)))
    intro s hI
    obtain ⟨two, n⟩ := s
    obtain ⟨hcn, h9, hnb⟩ := hI
    dsimp only at hcn h9 hnb ⊢
    have hq : 1 < n → n.tmod 2 = 0 → _ := fun u1 u2 => twos_round hc hcn h9 u1 u2
    have q2 := tdivL_bd 2 (c := n) (by omega)
    refine H.seq ?_
    refine H.seq ?_
    refine H.region ?_
    refine HO.v (V.move rfl) (ltn rfl) ?_
    refine HO.v (V.gtr rfl rfl) (ltn rfl) ?_
    refine HO.v (V.move rfl) (ltn rfl) ?_
    refine HO.part (t := 10) rfl (fun g10 => ?_) (fun g10 => ?_)
    · skip
      try simp only [decide_eq_true_eq, decide_eq_false_iff_not, Bool.not_eq_true', Bool.not_eq_false'] at g10
      refine HO.gdo rfl rfl rfl rfl ?_
      refine HO.v (V.move rfl) (ltn rfl) ?_
      refine HO.gdo rfl rfl rfl rfl ?_
      refine HO.v (V.rem rfl rfl (by omega)) (ltn rfl) ?_
      refine HO.gdo rfl rfl rfl rfl ?_
      refine HO.v (V.eqlI rfl rfl) (ltn rfl) ?_
      refine HO.v (V.pickT rfl rfl) (ltn rfl) ?_
      refine HO.nil ?_
      refine HQ.next ?_
      refine H.condB rfl (fun h14 => ?_) (fun h14 => ?_)
      · skip
        try simp only [decide_eq_true_eq, decide_eq_false_iff_not, Bool.not_eq_true', Bool.not_eq_false'] at h14
        refine H.skip ?_
        refine HQ.next ?_
        refine H.seq ?_
        refine H.block ?_
        refine H.region ?_
        refine HO.v (V.move rfl) (ltn rfl) ?_
        refine HO.v (V.add rfl rfl (by omega)) (ltn rfl) ?_
        refine HO.v (V.assign rfl) (ltn rfl) ?_
        refine HO.nil ?_
        refine HQ.block_normal ?_
        refine HQ.next ?_
        refine H.region ?_
        refine HO.v (V.move rfl) (ltn rfl) ?_
        refine HO.v (V.quo rfl rfl (by omega) (by omega)) (ltn rfl) ?_
        refine HO.v (V.assign rfl) (ltn rfl) ?_
        refine HO.nil ?_
        refine HQ.round ((two + 1, n.tdiv 2)) ?_ ?_ ?_
        · exact (have q := hq g10 h14; ⟨q.1, q.2.1, by dsimp only; omega, by dsimp only; omega⟩)
        · (have q := hq g10 h14; dsimp only; omega)
        · skip
          exact HQ.fits (.cons rfl (.cons rfl (.cons rfl (.cons rfl (.nil))))) (by exact Rems.cons (by exact .here) (Rems.cons (by exact .here) (Rems.nil)))
      · skip
        try simp only [decide_eq_true_eq, decide_eq_false_iff_not, Bool.not_eq_true', Bool.not_eq_false'] at h14
        refine H.exit ?_
        refine HQ.then_exit ?_
        refine HQ.then_exit ?_
        refine HQ.exit_hit ?_
        refine HQ.cut ((two, n)) ?_ ?_
        · exact ⟨⟨hcn, h9⟩, by first | (intro e; exact absurd e.2 h14) | (intro e; exact absurd e.1 g10)⟩
        · skip
          exact HQ.fits (.cons rfl (.cons rfl (.cons rfl (.nil)))) (by exact Rems.cons (by exact .here) (Rems.cons (by exact .here) (Rems.nil)))
    · skip
      try simp only [decide_eq_true_eq, decide_eq_false_iff_not, Bool.not_eq_true', Bool.not_eq_false'] at g10
      refine HO.gskip rfl rfl rfl rfl (ltn rfl) ?_
      refine HO.gskip rfl rfl rfl rfl (ltn rfl) ?_
      refine HO.gskip rfl rfl rfl rfl (ltn rfl) ?_
      refine HO.v (V.pickF rfl rfl) (ltn rfl) ?_
      refine HO.nil ?_
      refine HQ.next ?_
      refine H.condF rfl rfl ?_
      refine H.exit ?_
      refine HQ.then_exit ?_
      refine HQ.then_exit ?_
      refine HQ.exit_hit ?_
      refine HQ.cut ((two, n)) ?_ ?_
      · exact ⟨⟨hcn, h9⟩, by first | (intro e; exact absurd e.2 h14) | (intro e; exact absurd e.1 g10)⟩
      · skip
        exact HQ.fits (.cons rfl (.cons rfl (.cons rfl (.nil)))) (by exact Rems.cons (by exact .here) (Rems.cons (by exact .here) (Rems.nil)))
  rintro ⟨two, n⟩ ⟨⟨hcn, h9⟩, hno⟩
  dsimp only at hcn h9 hno ⊢
  refine H.cut (σ := Nat × Bool) (fun s => [(1, .pointer (some ⟨b1, 0, none⟩)), (2, .pointer (some ⟨b2, 0, none⟩)), (3, .int .i64 ((s.1 : Nat) : Int)), (5, .bool s.2)]) (fun s => [cellsCh b2 26 [.int .i64 0, .int .i64 0, .int .i64 0, .int .i64 0, .int .i64 0], cellsCh b1 26 [.int .i64 i.op, .int .i64 i.to, .int .i64 i.a, .int .i64 i.b, .int .i64 i.c]]) (fun s => (s.2 = true → pow2 i.c ≠ 0 ∧ pow2 i.c = s.1) ∧ (s.2 = false → pow2 i.c = 0)) ?_ ?_
  · skip
    refine H.draws (.cons (i := 0) rfl (.cons (i := 1) rfl (.nil))) (by kernel_rfl) ?_
    refine HA.take (i := 0) rfl rfl (ltn rfl) (by kernel_rfl) (by kernel_rfl) (by kernel_rfl) (gives_of want_none (V.fieldAddr (fs := #[]) fa26_4 rfl)) (.cons (by exact (.head _)) (.cons (by exact (.tail _ (.head _))) (Sub.nil))) rfl ?_
    refine HA.take (i := 1) rfl rfl (ltn rfl) (by kernel_rfl) (by kernel_rfl) (by kernel_rfl) (gives_of want_none (V.load sc3 rfl (by exact .mk (.there .here) rfl))) (.cons (by exact (.head _)) (.cons (by exact (.tail _ (.head _))) (Sub.nil))) rfl ?_
    refine HA.take (i := 2) rfl rfl (ltn rfl) (by kernel_rfl) (by kernel_rfl) (by kernel_rfl) (gives_of want_none (V.gtr rfl rfl)) (.cons (by exact (.head _)) (.cons (by exact (.tail _ (.head _))) (Sub.nil))) rfl ?_
    refine HA.take (i := 3) rfl rfl (ltn rfl) (by kernel_rfl) (by kernel_rfl) (by kernel_rfl) (gives_of want_none (V.move rfl)) (.cons (by exact (.head _)) (.cons (by exact (.tail _ (.head _))) (Sub.nil))) rfl ?_
    refine HA.part (t := 22) rfl (fun g22 => ?_) (fun g22 => ?_)
    · skip
      try simp only [decide_eq_true_eq, decide_eq_false_iff_not, Bool.not_eq_true', Bool.not_eq_false'] at g22
      refine HA.take (i := 4) rfl rfl (ltn rfl) (by kernel_rfl) (by kernel_rfl) (by kernel_rfl) (gives_of (want_some rfl rfl rfl rfl) (V.fieldAddr (fs := #[]) fa26_4 rfl)) (.cons (by exact (.head _)) (.cons (by exact (.tail _ (.head _))) (Sub.nil))) rfl ?_
      refine HA.take (i := 5) rfl rfl (ltn rfl) (by kernel_rfl) (by kernel_rfl) (by kernel_rfl) (gives_of (want_some rfl rfl rfl rfl) (V.load sc3 rfl (by exact .mk (.there .here) rfl))) (.cons (by exact (.head _)) (.cons (by exact (.tail _ (.head _))) (Sub.nil))) rfl ?_
      refine HA.take (i := 6) rfl rfl (ltn rfl) (by kernel_rfl) (by kernel_rfl) (by kernel_rfl) (gives_of (want_some rfl rfl rfl rfl) (V.move rfl)) (.cons (by exact (.head _)) (.cons (by exact (.tail _ (.head _))) (Sub.nil))) rfl ?_
      refine HA.take (i := 7) rfl rfl (ltn rfl) (by kernel_rfl) (by kernel_rfl) (by kernel_rfl) (gives_of (want_some rfl rfl rfl rfl) (V.shl rfl rfl (by omega))) (.cons (by exact (.head _)) (.cons (by exact (.tail _ (.head _))) (Sub.nil))) rfl ?_
      rw [shl_two h9]
      refine HA.take (i := 8) rfl rfl (ltn rfl) (by kernel_rfl) (by kernel_rfl) (by kernel_rfl) (gives_of (want_some rfl rfl rfl rfl) (V.eqlI rfl rfl)) (.cons (by exact (.head _)) (.cons (by exact (.tail _ (.head _))) (Sub.nil))) rfl ?_
      refine HA.take (i := 9) rfl rfl (ltn rfl) (by kernel_rfl) (by kernel_rfl) (by kernel_rfl) (gives_of want_none (V.pickT rfl rfl)) (.cons (by exact (.head _)) (.cons (by exact (.tail _ (.head _))) (Sub.nil))) rfl ?_
      refine HA.take (i := 10) rfl rfl (ltn rfl) (by kernel_rfl) (by kernel_rfl) (by kernel_rfl) (gives_of want_none (V.assign rfl)) (.cons (by exact (.head _)) (.cons (by exact (.tail _ (.head _))) (Sub.nil))) rfl ?_
      refine HA.done (by kernel_rfl) ?_
      refine HQ.cut ((two, decide (i.c = 2 ^ two))) ?_ ?_
      · exact ⟨fun e => twos_yes hc hcn h9 hno g22 (by simpa using e), fun e => twos_no hc hcn h9 hno (fun q => (by simp [q.2] at e))⟩
      · skip
        exact HQ.fits (.cons rfl (.cons rfl (.cons rfl (.cons rfl (.nil))))) (by exact Rems.cons (by exact .here) (Rems.cons (by exact .here) (Rems.nil)))
    · skip
      try simp only [decide_eq_true_eq, decide_eq_false_iff_not, Bool.not_eq_true', Bool.not_eq_false'] at g22
      refine HA.take (i := 4) rfl rfl (ltn rfl) (by kernel_rfl) (by kernel_rfl) (by kernel_rfl) (gives_not (want_not rfl rfl rfl rfl)) (.cons (by exact (.head _)) (.cons (by exact (.tail _ (.head _))) (Sub.nil))) rfl ?_
      refine HA.take (i := 5) rfl rfl (ltn rfl) (by kernel_rfl) (by kernel_rfl) (by kernel_rfl) (gives_not (want_not rfl rfl rfl rfl)) (.cons (by exact (.head _)) (.cons (by exact (.tail _ (.head _))) (Sub.nil))) rfl ?_
      refine HA.take (i := 6) rfl rfl (ltn rfl) (by kernel_rfl) (by kernel_rfl) (by kernel_rfl) (gives_not (want_not rfl rfl rfl rfl)) (.cons (by exact (.head _)) (.cons (by exact (.tail _ (.head _))) (Sub.nil))) rfl ?_
      refine HA.take (i := 7) rfl rfl (ltn rfl) (by kernel_rfl) (by kernel_rfl) (by kernel_rfl) (gives_not (want_not rfl rfl rfl rfl)) (.cons (by exact (.head _)) (.cons (by exact (.tail _ (.head _))) (Sub.nil))) rfl ?_
      refine HA.take (i := 8) rfl rfl (ltn rfl) (by kernel_rfl) (by kernel_rfl) (by kernel_rfl) (gives_not (want_not rfl rfl rfl rfl)) (.cons (by exact (.head _)) (.cons (by exact (.tail _ (.head _))) (Sub.nil))) rfl ?_
      refine HA.take (i := 9) rfl rfl (ltn rfl) (by kernel_rfl) (by kernel_rfl) (by kernel_rfl) (gives_of want_none (V.pickF rfl rfl)) (.cons (by exact (.head _)) (.cons (by exact (.tail _ (.head _))) (Sub.nil))) rfl ?_
      refine HA.take (i := 10) rfl rfl (ltn rfl) (by kernel_rfl) (by kernel_rfl) (by kernel_rfl) (gives_of want_none (V.assign rfl)) (.cons (by exact (.head _)) (.cons (by exact (.tail _ (.head _))) (Sub.nil))) rfl ?_
      refine HA.done (by kernel_rfl) ?_
      refine HQ.cut ((two, false)) ?_ ?_
      · exact ⟨fun e => (by cases e), fun e => twos_no hc hcn h9 hno (fun q => g22 q.1)⟩
      · skip
        exact HQ.fits (.cons rfl (.cons rfl (.cons rfl (.cons rfl (.nil))))) (by exact Rems.cons (by exact .here) (Rems.cons (by exact .here) (Rems.nil)))
  rintro ⟨two, p⟩ ⟨hy, hz⟩
  dsimp only at hy hz ⊢
  have hk : (p = true ∧ pow2 i.c ≠ 0 ∧ pow2 i.c = two) ∨ (p = false ∧ pow2 i.c = 0) := by (cases p; exact .inr ⟨rfl, hz rfl⟩; exact .inl ⟨rfl, hy rfl⟩)
  refine H.seq ?_
  refine H.block ?_
  refine H.seq ?_
  refine H.region ?_
  refine HO.v (V.fieldAddr (fs := #[]) fa26_0 rfl) (ltn rfl) ?_
  refine HO.v (V.load sc3 rfl (by exact .mk (.there .here) rfl)) (ltn rfl) ?_
  refine HO.v (V.eqlI rfl rfl) (ltn rfl) ?_
  refine HO.v (V.move rfl) (ltn rfl) ?_
  refine HO.setF (t := 33) rfl (by simp [ho]) ?_
  refine HO.gdo rfl rfl rfl rfl ?_
  refine HO.v (V.fieldAddr (fs := #[]) fa26_0 rfl) (ltn rfl) ?_
  refine HO.gdo rfl rfl rfl rfl ?_
  refine HO.v (V.load sc3 rfl (by exact .mk (.there .here) rfl)) (ltn rfl) ?_
  refine HO.gdo rfl rfl rfl rfl ?_
  refine HO.v (V.eqlI rfl rfl) (ltn rfl) ?_
  refine HO.v (V.pickF rfl rfl) (ltn rfl) ?_
  refine HO.v (V.move rfl) (ltn rfl) ?_
  refine HO.setF (t := 38) rfl (by simp [ho]) ?_
  refine HO.gskip rfl rfl rfl rfl (ltn rfl) ?_
  refine HO.gskip rfl rfl rfl rfl (ltn rfl) ?_
  refine HO.gskip rfl rfl rfl rfl (ltn rfl) ?_
  refine HO.v (V.pickF rfl rfl) (ltn rfl) ?_
  refine HO.v (V.assign rfl) (ltn rfl) ?_
  refine HO.nil ?_
  refine HQ.keep (.cons (t := 1) rfl (.cons (t := 2) rfl (.cons (t := 3) rfl (.cons (t := 5) rfl (.cons (t := 29) rfl (.nil)))))) ?_
  refine HQ.next ?_
  refine H.condF rfl rfl ?_
  refine H.seq ?_
  refine H.region ?_
  refine HO.v (V.fieldAddr (fs := #[]) fa26_0 rfl) (ltn rfl) ?_
  refine HO.v (V.load sc3 rfl (by exact .mk (.there .here) rfl)) (ltn rfl) ?_
  refine HO.v (V.eqlI rfl rfl) (ltn rfl) ?_
  refine HO.v (V.move rfl) (ltn rfl) ?_
  refine HO.setF (t := 52) rfl (by simp [ho]) ?_
  refine HO.gdo rfl rfl rfl rfl ?_
  refine HO.v (V.fieldAddr (fs := #[]) fa26_0 rfl) (ltn rfl) ?_
  refine HO.gdo rfl rfl rfl rfl ?_
  refine HO.v (V.load sc3 rfl (by exact .mk (.there .here) rfl)) (ltn rfl) ?_
  refine HO.gdo rfl rfl rfl rfl ?_
  refine HO.v (V.eqlI rfl rfl) (ltn rfl) ?_
  refine HO.v (V.pickF rfl rfl) (ltn rfl) ?_
  refine HO.v (V.move rfl) (ltn rfl) ?_
  refine HO.setF (t := 57) rfl (by simp [ho]) ?_
  refine HO.gskip rfl rfl rfl rfl (ltn rfl) ?_
  refine HO.gskip rfl rfl rfl rfl (ltn rfl) ?_
  refine HO.gskip rfl rfl rfl rfl (ltn rfl) ?_
  refine HO.v (V.pickF rfl rfl) (ltn rfl) ?_
  refine HO.v (V.assign rfl) (ltn rfl) ?_
  refine HO.nil ?_
  refine HQ.keep (.cons (t := 1) rfl (.cons (t := 2) rfl (.cons (t := 3) rfl (.cons (t := 5) rfl (.cons (t := 48) rfl (.nil)))))) ?_
  refine HQ.next ?_
  refine H.condF rfl rfl ?_
  refine H.seq ?_
  refine H.region ?_
  refine HO.v (V.fieldAddr (fs := #[]) fa26_0 rfl) (ltn rfl) ?_
  refine HO.v (V.load sc3 rfl (by exact .mk (.there .here) rfl)) (ltn rfl) ?_
  refine HO.v (V.eqlI rfl rfl) (ltn rfl) ?_
  refine HO.v (V.move rfl) (ltn rfl) ?_
  refine HO.setF (t := 71) rfl (by simp [ho]) ?_
  refine HO.gskip rfl rfl rfl rfl (ltn rfl) ?_
  refine HO.v (V.pickF rfl rfl) (ltn rfl) ?_
  refine HO.v (V.assign rfl) (ltn rfl) ?_
  refine HO.nil ?_
  refine HQ.keep (.cons (t := 1) rfl (.cons (t := 2) rfl (.cons (t := 3) rfl (.cons (t := 5) rfl (.cons (t := 67) rfl (.nil)))))) ?_
  refine HQ.next ?_
  refine H.condF rfl rfl ?_
  refine H.seq ?_
  refine H.region ?_
  refine HO.v (V.fieldAddr (fs := #[]) fa26_0 rfl) (ltn rfl) ?_
  refine HO.v (V.load sc3 rfl (by exact .mk (.there .here) rfl)) (ltn rfl) ?_
  refine HO.v (V.eqlI rfl rfl) (ltn rfl) ?_
  refine HO.v (V.move rfl) (ltn rfl) ?_
  refine HO.setF (t := 84) rfl (by simp [ho]) ?_
  refine HO.gskip rfl rfl rfl rfl (ltn rfl) ?_
  refine HO.v (V.pickF rfl rfl) (ltn rfl) ?_
  refine HO.v (V.assign rfl) (ltn rfl) ?_
  refine HO.nil ?_
  refine HQ.keep (.cons (t := 1) rfl (.cons (t := 2) rfl (.cons (t := 3) rfl (.cons (t := 80) rfl (.nil))))) ?_
  refine HQ.next ?_
  refine H.condF rfl rfl ?_
  refine H.seq ?_
  refine H.region ?_
  refine HO.v (V.fieldAddr (fs := #[]) fa26_0 rfl) (ltn rfl) ?_
  refine HO.v (V.load sc3 rfl (by exact .mk (.there .here) rfl)) (ltn rfl) ?_
  refine HO.v (V.eqlI rfl rfl) (ltn rfl) ?_
  refine HO.v (V.move rfl) (ltn rfl) ?_
  refine HO.setF (t := 97) rfl (by simp [ho]) ?_
  refine HO.gskip rfl rfl rfl rfl (ltn rfl) ?_
  refine HO.gskip rfl rfl rfl rfl (ltn rfl) ?_
  refine HO.gskip rfl rfl rfl rfl (ltn rfl) ?_
  refine HO.gskip rfl rfl rfl rfl (ltn rfl) ?_
  refine HO.gskip rfl rfl rfl rfl (ltn rfl) ?_
  refine HO.v (V.pickF rfl rfl) (ltn rfl) ?_
  refine HO.v (V.assign rfl) (ltn rfl) ?_
  refine HO.nil ?_
  refine HQ.keep (.cons (t := 1) rfl (.cons (t := 2) rfl (.cons (t := 93) rfl (.nil)))) ?_
  refine HQ.next ?_
  refine H.condF rfl rfl ?_
  refine H.skip ?_
  refine HQ.block_normal ?_
  refine HQ.next ?_
  refine H.seq ?_
  refine H.region ?_
  refine HO.v (V.loadA ag26 rfl (by exact .mk (.there .here) (by repeat constructor))) (ltn rfl) ?_
  refine HO.store sz26 rfl rfl rfl rfl rfl (by exact .mk .here (by repeat constructor)) ?_
  refine HO.nil ?_
  refine HQ.next ?_
  refine H.ret ?_
  refine HQ.end_ rfl rfl rfl rfl (.inl rfl) _ (fun a w s => resR1 Tryd.results12 s (.agg ag26 rfl (by exact .mk .here (by repeat constructor)))) ?_
  refine ⟨_, _, .nil, ?_, rfl⟩
  unfold plain
  rcases hk with ⟨k1, k2, k3⟩ | ⟨k1, k2⟩
  all_goals first | ((repeat (first | rw [if_pos (by omega)] | rw [if_neg (by omega)])); first | done | rfl | (rw [k3]; done)) | (exfalso; clear hy hz hcn h9 hno; simp_all; done)
theorem plain13_w (i : Ins) (hc : -512 ≤ i.c ∧ i.c ≤ 512) : Tri Tryd.prog 12 #[vIn i] [] [] (fun v L' => v = vIn (plain i) ∧ L' = []) := by
  by_cases h3 : i.op = 3
  · exact plain13_3 i hc h3
  · by_cases h5 : i.op = 5
    · exact plain13_5 i hc h5
    · by_cases h6 : i.op = 6
      · exact plain13_6 i hc h6
      · exact plain13_0 i hc ⟨h3, h5, h6⟩


end Go.Proofs.YtmkoadgphhkfgaaDoor
