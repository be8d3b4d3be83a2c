/- Walks of package prog's checks: on a program that may be, Check answers (0, OK); the registers that an instruction asks. Conditions: as the theorems say. -/
import Derived.Test.YtcmlghemanjaaaaSlE
import Derived.Test.YtcmlghemanjaaaaFacts
import Derived.Test.YtcmlghemanjaaaaPgA
set_option linter.unusedVariables false
set_option linter.unusedSimpArgs false
set_option maxRecDepth 10000
namespace Go.Proofs.Ytcmlghemanjaaaa
open Go Go.RowKit Sl Pg
theorem asks_two {b : Nat} {i : Ins} {K : List Ch} (h : i.op = 3 ∨ i.op = 4) : ∃ L' J, Rems (rowE (encI .i64) 3 (some ⟨b, 0, none⟩) [i.a, i.b].length [i.a, i.b] :: K) L' J ∧ ∃ A c, Value.slice (some ⟨b, 0, none⟩) [i.a, i.b].length [i.a, i.b].length = .slice A (asks i).length c ∧ L' = [rowE (encI .i64) 3 A c (asks i)] := by
  have e : asks i = [i.a, i.b] := by unfold asks; rw [if_pos h]
  rw [e]
  exact ⟨_, _, .cons .here .nil, _, _, rfl, rfl⟩
theorem asks_one {b : Nat} {i : Ins} {K : List Ch} (h : ¬ (i.op = 3 ∨ i.op = 4)) (h1 : 1 ≤ i.op ∧ i.op ≤ 8) : ∃ L' J, Rems (rowE (encI .i64) 3 (some ⟨b, 0, none⟩) [i.a].length [i.a] :: K) L' J ∧ ∃ A c, Value.slice (some ⟨b, 0, none⟩) [i.a].length [i.a].length = .slice A (asks i).length c ∧ L' = [rowE (encI .i64) 3 A c (asks i)] := by
  have e : asks i = [i.a] := by unfold asks; rw [if_neg h, if_pos h1]
  rw [e]
  exact ⟨_, _, .cons .here .nil, _, _, rfl, rfl⟩

set_option maxRecDepth 100000
theorem ag50 : Aggr Go.Proofs.Try.prog 50 5 := ⟨by kernel_rfl, by kernel_rfl⟩
theorem ca21 : Callable Go.Proofs.Try.prog 21 := by unfold Callable; kernel_rfl
theorem ca23 : Callable Go.Proofs.Try.prog 23 := by unfold Callable; kernel_rfl
theorem ca24 : Callable Go.Proofs.Try.prog 24 := by unfold Callable; kernel_rfl
theorem ca25 : Callable Go.Proofs.Try.prog 25 := by unfold Callable; kernel_rfl
theorem fa29_0 : (Go.Proofs.Try.prog.underlying 29).bind (fun | .struct fs => (fs[0]?).bind fun f => (Go.Proofs.Try.prog.info? f.type).map fun j => (f.offset, j.size == 0) | _ => none) = some (0, false) := by kernel_rfl
theorem fa29_1 : (Go.Proofs.Try.prog.underlying 29).bind (fun | .struct fs => (fs[1]?).bind fun f => (Go.Proofs.Try.prog.info? f.type).map fun j => (f.offset, j.size == 0) | _ => none) = some (1, false) := by kernel_rfl
theorem fa29_2 : (Go.Proofs.Try.prog.underlying 29).bind (fun | .struct fs => (fs[2]?).bind fun f => (Go.Proofs.Try.prog.info? f.type).map fun j => (f.offset, j.size == 0) | _ => none) = some (2, false) := by kernel_rfl
theorem fa29_3 : (Go.Proofs.Try.prog.underlying 29).bind (fun | .struct fs => (fs[3]?).bind fun f => (Go.Proofs.Try.prog.info? f.type).map fun j => (f.offset, j.size == 0) | _ => none) = some (3, false) := by kernel_rfl
theorem fa50_0 : (Go.Proofs.Try.prog.underlying 50).bind (fun | .struct fs => (fs[0]?).bind fun f => (Go.Proofs.Try.prog.info? f.type).map fun j => (f.offset, j.size == 0) | _ => none) = some (0, false) := by kernel_rfl
theorem fa50_1 : (Go.Proofs.Try.prog.underlying 50).bind (fun | .struct fs => (fs[1]?).bind fun f => (Go.Proofs.Try.prog.info? f.type).map fun j => (f.offset, j.size == 0) | _ => none) = some (1, false) := by kernel_rfl
theorem fa50_2 : (Go.Proofs.Try.prog.underlying 50).bind (fun | .struct fs => (fs[2]?).bind fun f => (Go.Proofs.Try.prog.info? f.type).map fun j => (f.offset, j.size == 0) | _ => none) = some (2, false) := by kernel_rfl
theorem fa50_3 : (Go.Proofs.Try.prog.underlying 50).bind (fun | .struct fs => (fs[3]?).bind fun f => (Go.Proofs.Try.prog.info? f.type).map fun j => (f.offset, j.size == 0) | _ => none) = some (3, false) := by kernel_rfl
theorem fa50_4 : (Go.Proofs.Try.prog.underlying 50).bind (fun | .struct fs => (fs[4]?).bind fun f => (Go.Proofs.Try.prog.info? f.type).map fun j => (f.offset, j.size == 0) | _ => none) = some (4, false) := by kernel_rfl
theorem sc26 : Scal Go.Proofs.Try.prog 26 := ⟨by kernel_rfl, by kernel_rfl⟩
theorem sc27 : Scal Go.Proofs.Try.prog 27 := ⟨by kernel_rfl, by kernel_rfl⟩
theorem sc3 : Scal Go.Proofs.Try.prog 3 := ⟨by kernel_rfl, by kernel_rfl⟩
theorem sz3 : (Go.Proofs.Try.prog.info? 3).map (·.size) = some 1 := by kernel_rfl
theorem sz50 : (Go.Proofs.Try.prog.info? 50).map (·.size) = some 5 := by kernel_rfl
theorem ze3 : TyZ Go.Proofs.Try.prog 3 (.int .i64 0) 1 8 := by unfold TyZ; kernel_rfl
theorem ze50 : TyZ Go.Proofs.Try.prog 50 (.agg #[(.int .i64 0), (.int .i64 0), (.int .i64 0), (.int .i64 0), (.int .i64 0)]) 5 40 := by unfold TyZ; kernel_rfl
set_option maxRecDepth 10000

theorem two_w (op : Int) :
    Tri Try.prog 24 #[.int .i64 op] [] [] (fun v L' => v = .bool (Pg.two op) ∧ L' = []) := by
  refine Tri.of' 9 [.int .i64 op] [(0, .int .i64 op)] Try.func24 Try.ntmps24 rfl rfl rfl ?_
  intro w0
  refine H.seq ?_
  refine H.region ?_
  refine HO.v (V.assign rfl) (ltn rfl) ?_
  refine HO.nil ?_
  refine HQ.next ?_
  refine H.seq ?_
  refine H.region ?_
  refine HO.v (V.move rfl) (ltn rfl) ?_
  refine HO.v (V.eqlI rfl rfl) (ltn rfl) ?_
  refine HO.v (V.move rfl) (ltn rfl) ?_
  refine HO.part (t := 5) rfl (fun g5 => ?_) (fun g5 => ?_)
  · skip
    try simp only [decide_eq_true_eq, decide_eq_false_iff_not, Bool.not_eq_true', Bool.not_eq_false'] at g5
    refine HO.gskip rfl rfl rfl rfl (ltn rfl) ?_
    refine HO.gskip rfl rfl rfl rfl (ltn rfl) ?_
    refine HO.v (V.pickT rfl rfl) (ltn rfl) ?_
    refine HO.v (V.assign rfl) (ltn rfl) ?_
    refine HO.nil ?_
    refine HQ.keep (.cons (t := 2) rfl (.nil)) ?_
    refine HQ.next ?_
    refine H.ret ?_
    refine HQ.end_ rfl rfl rfl rfl (.inl rfl) _ (fun a w s => res1 Try.results24 s rfl) ?_
    exact ⟨_, _, .nil, by unfold Pg.two; simp_all <;> omega, rfl⟩
  · skip
    try simp only [decide_eq_true_eq, decide_eq_false_iff_not, Bool.not_eq_true', Bool.not_eq_false'] at g5
    refine HO.gdo rfl rfl rfl rfl ?_
    refine HO.v (V.move rfl) (ltn rfl) ?_
    refine HO.gdo rfl rfl rfl rfl ?_
    refine HO.v (V.eqlI rfl rfl) (ltn rfl) ?_
    refine HO.v (V.pickF rfl rfl) (ltn rfl) ?_
    refine HO.v (V.assign rfl) (ltn rfl) ?_
    refine HO.nil ?_
    refine HQ.keep (.cons (t := 2) rfl (.nil)) ?_
    refine HQ.next ?_
    refine H.ret ?_
    refine HQ.end_ rfl rfl rfl rfl (.inl rfl) _ (fun a w s => res1 Try.results24 s rfl) ?_
    exact ⟨_, _, .nil, by unfold Pg.two; simp_all <;> omega, rfl⟩
theorem constant_w (i : Ins) :
    Tri Try.prog 25 #[vIn i] [] [] (fun v L' => v = .bool (Pg.constant i) ∧ L' = []) := by
  refine Tri.of' 35 [vIn i] [(0, vIn i)] Try.func25 Try.ntmps25 rfl rfl rfl ?_
  intro w0
  refine H.seq ?_
  refine H.region ?_
  refine HO.box rfl rfl (ltn rfl) ?_
  intro b1
  refine HO.v (V.assign rfl) (ltn rfl) ?_
  refine HO.nil ?_
  refine HQ.next ?_
  refine H.seq ?_
  refine H.seq ?_
  refine H.region ?_
  refine HO.v (V.fieldAddr (fs := #[]) fa50_0 rfl) (ltn rfl) ?_
  refine HO.v (V.load sc3 rfl (by exact .mk .here rfl)) (ltn rfl) ?_
  refine HO.nil ?_
  refine HQ.next ?_
  refine H.block ?_
  refine H.seq ?_
  refine H.seq ?_
  refine H.region ?_
  refine HO.v (V.eqlI rfl rfl) (ltn rfl) ?_
  refine HO.v (V.assign rfl) (ltn rfl) ?_
  refine HO.nil ?_
  refine HQ.keep (.cons (t := 1) rfl (.cons (t := 2) rfl (.cons (t := 4) rfl (.cons (t := 5) rfl (.nil))))) ?_
  refine HQ.next ?_
  refine H.condB rfl (fun h5 => ?_) (fun h5 => ?_)
  · skip
    try simp only [decide_eq_true_eq, decide_eq_false_iff_not, Bool.not_eq_true', Bool.not_eq_false'] at h5
    refine H.skip ?_
    refine HQ.next ?_
    refine H.condT rfl (by first | exact h5 | simpa using h5) ?_
    refine H.seq ?_
    refine H.region ?_
    refine HO.v (V.fieldAddr (fs := #[]) fa50_4 rfl) (ltn rfl) ?_
    refine HO.v (V.load sc3 rfl (by exact .mk .here rfl)) (ltn rfl) ?_
    refine HO.v (V.neqI rfl rfl) (ltn rfl) ?_
    refine HO.v (V.move rfl) (ltn rfl) ?_
    refine HO.part (t := 11) rfl (fun g11 => ?_) (fun g11 => ?_)
    · skip
      try simp only [decide_eq_true_eq, decide_eq_false_iff_not, Bool.not_eq_true', Bool.not_eq_false'] at g11
      refine HO.gdo rfl rfl rfl rfl ?_
      refine HO.v (V.fieldAddr (fs := #[]) fa50_4 rfl) (ltn rfl) ?_
      refine HO.gdo rfl rfl rfl rfl ?_
      refine HO.v (V.load sc3 rfl (by exact .mk .here rfl)) (ltn rfl) ?_
      refine HO.gdo rfl rfl rfl rfl ?_
      refine HO.v (V.geq rfl rfl) (ltn rfl) ?_
      refine HO.v (V.pickT rfl rfl) (ltn rfl) ?_
      refine HO.v (V.move rfl) (ltn rfl) ?_
      refine HO.part (t := 16) rfl (fun g16 => ?_) (fun g16 => ?_)
      · skip
        try simp only [decide_eq_true_eq, decide_eq_false_iff_not, Bool.not_eq_true', Bool.not_eq_false'] at g16
        refine HO.gdo rfl rfl rfl rfl ?_
        refine HO.v (V.fieldAddr (fs := #[]) fa50_4 rfl) (ltn rfl) ?_
        refine HO.gdo rfl rfl rfl rfl ?_
        refine HO.v (V.load sc3 rfl (by exact .mk .here rfl)) (ltn rfl) ?_
        refine HO.gdo rfl rfl rfl rfl ?_
        refine HO.v (V.leq rfl rfl) (ltn rfl) ?_
        refine HO.v (V.pickT rfl rfl) (ltn rfl) ?_
        refine HO.v (V.assign rfl) (ltn rfl) ?_
        refine HO.nil ?_
        refine HQ.keep (.cons (t := 1) rfl (.cons (t := 2) rfl (.nil))) ?_
        refine HQ.next ?_
        refine H.ret ?_
        refine HQ.block_ret ?_
        refine HQ.then_ret ?_
        refine HQ.end_ rfl rfl rfl rfl (.inl rfl) _ (fun a w s => res1 Try.results25 s rfl) ?_
        exact ⟨_, _, .nil, by unfold Pg.constant; simp_all <;> omega, rfl⟩
      · skip
        try simp only [decide_eq_true_eq, decide_eq_false_iff_not, Bool.not_eq_true', Bool.not_eq_false'] at g16
        refine HO.gskip rfl rfl rfl rfl (ltn rfl) ?_
        refine HO.gskip rfl rfl rfl rfl (ltn rfl) ?_
        refine HO.gskip rfl rfl rfl rfl (ltn rfl) ?_
        refine HO.v (V.pickF rfl rfl) (ltn rfl) ?_
        refine HO.v (V.assign rfl) (ltn rfl) ?_
        refine HO.nil ?_
        refine HQ.keep (.cons (t := 1) rfl (.cons (t := 2) rfl (.nil))) ?_
        refine HQ.next ?_
        refine H.ret ?_
        refine HQ.block_ret ?_
        refine HQ.then_ret ?_
        refine HQ.end_ rfl rfl rfl rfl (.inl rfl) _ (fun a w s => res1 Try.results25 s rfl) ?_
        exact ⟨_, _, .nil, by unfold Pg.constant; simp_all <;> omega, rfl⟩
    · skip
      try simp only [decide_eq_true_eq, decide_eq_false_iff_not, Bool.not_eq_true', Bool.not_eq_false'] at g11
      refine HO.gskip rfl rfl rfl rfl (ltn rfl) ?_
      refine HO.gskip rfl rfl rfl rfl (ltn rfl) ?_
      refine HO.gskip rfl rfl rfl rfl (ltn rfl) ?_
      refine HO.v (V.pickF rfl rfl) (ltn rfl) ?_
      refine HO.v (V.move rfl) (ltn rfl) ?_
      refine HO.gskip rfl rfl rfl rfl (ltn rfl) ?_
      refine HO.gskip rfl rfl rfl rfl (ltn rfl) ?_
      refine HO.gskip rfl rfl rfl rfl (ltn rfl) ?_
      refine HO.v (V.pickF rfl rfl) (ltn rfl) ?_
      refine HO.v (V.assign rfl) (ltn rfl) ?_
      refine HO.nil ?_
      refine HQ.keep (.cons (t := 1) rfl (.cons (t := 2) rfl (.nil))) ?_
      refine HQ.next ?_
      refine H.ret ?_
      refine HQ.block_ret ?_
      refine HQ.then_ret ?_
      refine HQ.end_ rfl rfl rfl rfl (.inl rfl) _ (fun a w s => res1 Try.results25 s rfl) ?_
      exact ⟨_, _, .nil, by unfold Pg.constant; simp_all <;> omega, rfl⟩
  · skip
    try simp only [decide_eq_true_eq, decide_eq_false_iff_not, Bool.not_eq_true', Bool.not_eq_false'] at h5
    refine H.region ?_
    refine HO.v (V.eqlI rfl rfl) (ltn rfl) ?_
    refine HO.v (V.assign rfl) (ltn rfl) ?_
    refine HO.nil ?_
    refine HQ.next ?_
    refine H.condB rfl (fun h5 => ?_) (fun h5 => ?_)
    · skip
      try simp only [decide_eq_true_eq, decide_eq_false_iff_not, Bool.not_eq_true', Bool.not_eq_false'] at h5
      refine H.seq ?_
      refine H.region ?_
      refine HO.v (V.fieldAddr (fs := #[]) fa50_4 rfl) (ltn rfl) ?_
      refine HO.v (V.load sc3 rfl (by exact .mk .here rfl)) (ltn rfl) ?_
      refine HO.v (V.neqI rfl rfl) (ltn rfl) ?_
      refine HO.v (V.move rfl) (ltn rfl) ?_
      refine HO.part (t := 11) rfl (fun g11 => ?_) (fun g11 => ?_)
      · skip
        try simp only [decide_eq_true_eq, decide_eq_false_iff_not, Bool.not_eq_true', Bool.not_eq_false'] at g11
        refine HO.gdo rfl rfl rfl rfl ?_
        refine HO.v (V.fieldAddr (fs := #[]) fa50_4 rfl) (ltn rfl) ?_
        refine HO.gdo rfl rfl rfl rfl ?_
        refine HO.v (V.load sc3 rfl (by exact .mk .here rfl)) (ltn rfl) ?_
        refine HO.gdo rfl rfl rfl rfl ?_
        refine HO.v (V.geq rfl rfl) (ltn rfl) ?_
        refine HO.v (V.pickT rfl rfl) (ltn rfl) ?_
        refine HO.v (V.move rfl) (ltn rfl) ?_
        refine HO.part (t := 16) rfl (fun g16 => ?_) (fun g16 => ?_)
        · skip
          try simp only [decide_eq_true_eq, decide_eq_false_iff_not, Bool.not_eq_true', Bool.not_eq_false'] at g16
          refine HO.gdo rfl rfl rfl rfl ?_
          refine HO.v (V.fieldAddr (fs := #[]) fa50_4 rfl) (ltn rfl) ?_
          refine HO.gdo rfl rfl rfl rfl ?_
          refine HO.v (V.load sc3 rfl (by exact .mk .here rfl)) (ltn rfl) ?_
          refine HO.gdo rfl rfl rfl rfl ?_
          refine HO.v (V.leq rfl rfl) (ltn rfl) ?_
          refine HO.v (V.pickT rfl rfl) (ltn rfl) ?_
          refine HO.v (V.assign rfl) (ltn rfl) ?_
          refine HO.nil ?_
          refine HQ.keep (.cons (t := 1) rfl (.cons (t := 2) rfl (.nil))) ?_
          refine HQ.next ?_
          refine H.ret ?_
          refine HQ.block_ret ?_
          refine HQ.then_ret ?_
          refine HQ.end_ rfl rfl rfl rfl (.inl rfl) _ (fun a w s => res1 Try.results25 s rfl) ?_
          exact ⟨_, _, .nil, by unfold Pg.constant; simp_all <;> omega, rfl⟩
        · skip
          try simp only [decide_eq_true_eq, decide_eq_false_iff_not, Bool.not_eq_true', Bool.not_eq_false'] at g16
          refine HO.gskip rfl rfl rfl rfl (ltn rfl) ?_
          refine HO.gskip rfl rfl rfl rfl (ltn rfl) ?_
          refine HO.gskip rfl rfl rfl rfl (ltn rfl) ?_
          refine HO.v (V.pickF rfl rfl) (ltn rfl) ?_
          refine HO.v (V.assign rfl) (ltn rfl) ?_
          refine HO.nil ?_
          refine HQ.keep (.cons (t := 1) rfl (.cons (t := 2) rfl (.nil))) ?_
          refine HQ.next ?_
          refine H.ret ?_
          refine HQ.block_ret ?_
          refine HQ.then_ret ?_
          refine HQ.end_ rfl rfl rfl rfl (.inl rfl) _ (fun a w s => res1 Try.results25 s rfl) ?_
          exact ⟨_, _, .nil, by unfold Pg.constant; simp_all <;> omega, rfl⟩
      · skip
        try simp only [decide_eq_true_eq, decide_eq_false_iff_not, Bool.not_eq_true', Bool.not_eq_false'] at g11
        refine HO.gskip rfl rfl rfl rfl (ltn rfl) ?_
        refine HO.gskip rfl rfl rfl rfl (ltn rfl) ?_
        refine HO.gskip rfl rfl rfl rfl (ltn rfl) ?_
        refine HO.v (V.pickF rfl rfl) (ltn rfl) ?_
        refine HO.v (V.move rfl) (ltn rfl) ?_
        refine HO.gskip rfl rfl rfl rfl (ltn rfl) ?_
        refine HO.gskip rfl rfl rfl rfl (ltn rfl) ?_
        refine HO.gskip rfl rfl rfl rfl (ltn rfl) ?_
        refine HO.v (V.pickF rfl rfl) (ltn rfl) ?_
        refine HO.v (V.assign rfl) (ltn rfl) ?_
        refine HO.nil ?_
        refine HQ.keep (.cons (t := 1) rfl (.cons (t := 2) rfl (.nil))) ?_
        refine HQ.next ?_
        refine H.ret ?_
        refine HQ.block_ret ?_
        refine HQ.then_ret ?_
        refine HQ.end_ rfl rfl rfl rfl (.inl rfl) _ (fun a w s => res1 Try.results25 s rfl) ?_
        exact ⟨_, _, .nil, by unfold Pg.constant; simp_all <;> omega, rfl⟩
    · skip
      try simp only [decide_eq_true_eq, decide_eq_false_iff_not, Bool.not_eq_true', Bool.not_eq_false'] at h5
      refine H.seq ?_
      refine H.seq ?_
      refine H.region ?_
      refine HO.v (V.eqlI rfl rfl) (ltn rfl) ?_
      refine HO.v (V.assign rfl) (ltn rfl) ?_
      refine HO.nil ?_
      refine HQ.keep (.cons (t := 1) rfl (.cons (t := 2) rfl (.cons (t := 4) rfl (.cons (t := 21) rfl (.nil))))) ?_
      refine HQ.next ?_
      refine H.condB rfl (fun h21 => ?_) (fun h21 => ?_)
      · skip
        try simp only [decide_eq_true_eq, decide_eq_false_iff_not, Bool.not_eq_true', Bool.not_eq_false'] at h21
        refine H.skip ?_
        refine HQ.next ?_
        refine H.condT rfl (by first | exact h21 | simpa using h21) ?_
        refine H.seq ?_
        refine H.region ?_
        refine HO.v (V.fieldAddr (fs := #[]) fa50_4 rfl) (ltn rfl) ?_
        refine HO.v (V.load sc3 rfl (by exact .mk .here rfl)) (ltn rfl) ?_
        refine HO.v (V.geq rfl rfl) (ltn rfl) ?_
        refine HO.v (V.move rfl) (ltn rfl) ?_
        refine HO.part (t := 27) rfl (fun g27 => ?_) (fun g27 => ?_)
        · skip
          try simp only [decide_eq_true_eq, decide_eq_false_iff_not, Bool.not_eq_true', Bool.not_eq_false'] at g27
          refine HO.gdo rfl rfl rfl rfl ?_
          refine HO.v (V.fieldAddr (fs := #[]) fa50_4 rfl) (ltn rfl) ?_
          refine HO.gdo rfl rfl rfl rfl ?_
          refine HO.v (V.load sc3 rfl (by exact .mk .here rfl)) (ltn rfl) ?_
          refine HO.gdo rfl rfl rfl rfl ?_
          refine HO.v (V.leq rfl rfl) (ltn rfl) ?_
          refine HO.v (V.pickT rfl rfl) (ltn rfl) ?_
          refine HO.v (V.assign rfl) (ltn rfl) ?_
          refine HO.nil ?_
          refine HQ.keep (.cons (t := 1) rfl (.cons (t := 2) rfl (.nil))) ?_
          refine HQ.next ?_
          refine H.ret ?_
          refine HQ.block_ret ?_
          refine HQ.then_ret ?_
          refine HQ.end_ rfl rfl rfl rfl (.inl rfl) _ (fun a w s => res1 Try.results25 s rfl) ?_
          exact ⟨_, _, .nil, by unfold Pg.constant; simp_all <;> omega, rfl⟩
        · skip
          try simp only [decide_eq_true_eq, decide_eq_false_iff_not, Bool.not_eq_true', Bool.not_eq_false'] at g27
          refine HO.gskip rfl rfl rfl rfl (ltn rfl) ?_
          refine HO.gskip rfl rfl rfl rfl (ltn rfl) ?_
          refine HO.gskip rfl rfl rfl rfl (ltn rfl) ?_
          refine HO.v (V.pickF rfl rfl) (ltn rfl) ?_
          refine HO.v (V.assign rfl) (ltn rfl) ?_
          refine HO.nil ?_
          refine HQ.keep (.cons (t := 1) rfl (.cons (t := 2) rfl (.nil))) ?_
          refine HQ.next ?_
          refine H.ret ?_
          refine HQ.block_ret ?_
          refine HQ.then_ret ?_
          refine HQ.end_ rfl rfl rfl rfl (.inl rfl) _ (fun a w s => res1 Try.results25 s rfl) ?_
          exact ⟨_, _, .nil, by unfold Pg.constant; simp_all <;> omega, rfl⟩
      · skip
        try simp only [decide_eq_true_eq, decide_eq_false_iff_not, Bool.not_eq_true', Bool.not_eq_false'] at h21
        refine H.region ?_
        refine HO.v (V.eqlI rfl rfl) (ltn rfl) ?_
        refine HO.v (V.assign rfl) (ltn rfl) ?_
        refine HO.nil ?_
        refine HQ.next ?_
        refine H.condB rfl (fun h21 => ?_) (fun h21 => ?_)
        · skip
          try simp only [decide_eq_true_eq, decide_eq_false_iff_not, Bool.not_eq_true', Bool.not_eq_false'] at h21
          refine H.seq ?_
          refine H.region ?_
          refine HO.v (V.fieldAddr (fs := #[]) fa50_4 rfl) (ltn rfl) ?_
          refine HO.v (V.load sc3 rfl (by exact .mk .here rfl)) (ltn rfl) ?_
          refine HO.v (V.geq rfl rfl) (ltn rfl) ?_
          refine HO.v (V.move rfl) (ltn rfl) ?_
          refine HO.part (t := 27) rfl (fun g27 => ?_) (fun g27 => ?_)
          · skip
            try simp only [decide_eq_true_eq, decide_eq_false_iff_not, Bool.not_eq_true', Bool.not_eq_false'] at g27
            refine HO.gdo rfl rfl rfl rfl ?_
            refine HO.v (V.fieldAddr (fs := #[]) fa50_4 rfl) (ltn rfl) ?_
            refine HO.gdo rfl rfl rfl rfl ?_
            refine HO.v (V.load sc3 rfl (by exact .mk .here rfl)) (ltn rfl) ?_
            refine HO.gdo rfl rfl rfl rfl ?_
            refine HO.v (V.leq rfl rfl) (ltn rfl) ?_
            refine HO.v (V.pickT rfl rfl) (ltn rfl) ?_
            refine HO.v (V.assign rfl) (ltn rfl) ?_
            refine HO.nil ?_
            refine HQ.keep (.cons (t := 1) rfl (.cons (t := 2) rfl (.nil))) ?_
            refine HQ.next ?_
            refine H.ret ?_
            refine HQ.block_ret ?_
            refine HQ.then_ret ?_
            refine HQ.end_ rfl rfl rfl rfl (.inl rfl) _ (fun a w s => res1 Try.results25 s rfl) ?_
            exact ⟨_, _, .nil, by unfold Pg.constant; simp_all <;> omega, rfl⟩
          · skip
            try simp only [decide_eq_true_eq, decide_eq_false_iff_not, Bool.not_eq_true', Bool.not_eq_false'] at g27
            refine HO.gskip rfl rfl rfl rfl (ltn rfl) ?_
            refine HO.gskip rfl rfl rfl rfl (ltn rfl) ?_
            refine HO.gskip rfl rfl rfl rfl (ltn rfl) ?_
            refine HO.v (V.pickF rfl rfl) (ltn rfl) ?_
            refine HO.v (V.assign rfl) (ltn rfl) ?_
            refine HO.nil ?_
            refine HQ.keep (.cons (t := 1) rfl (.cons (t := 2) rfl (.nil))) ?_
            refine HQ.next ?_
            refine H.ret ?_
            refine HQ.block_ret ?_
            refine HQ.then_ret ?_
            refine HQ.end_ rfl rfl rfl rfl (.inl rfl) _ (fun a w s => res1 Try.results25 s rfl) ?_
            exact ⟨_, _, .nil, by unfold Pg.constant; simp_all <;> omega, rfl⟩
        · skip
          try simp only [decide_eq_true_eq, decide_eq_false_iff_not, Bool.not_eq_true', Bool.not_eq_false'] at h21
          refine H.skip ?_
          refine HQ.block_normal ?_
          refine HQ.next ?_
          refine H.seq ?_
          refine H.region ?_
          refine HO.v (V.fieldAddr (fs := #[]) fa50_4 rfl) (ltn rfl) ?_
          refine HO.v (V.load sc3 rfl (by exact .mk .here rfl)) (ltn rfl) ?_
          refine HO.v (V.eqlI rfl rfl) (ltn rfl) ?_
          refine HO.v (V.assign rfl) (ltn rfl) ?_
          refine HO.nil ?_
          refine HQ.keep (.cons (t := 2) rfl (.nil)) ?_
          refine HQ.next ?_
          refine H.ret ?_
          refine HQ.end_ rfl rfl rfl rfl (.inl rfl) _ (fun a w s => res1 Try.results25 s rfl) ?_
          exact ⟨_, _, .nil, by unfold Pg.constant; simp_all <;> omega, rfl⟩
theorem asks_w (i : Ins) (h1 : 1 ≤ i.op) (h8 : i.op ≤ 8) :
    Tri Try.prog 23 #[vIn i] [] [] (fun v L' => ∃ A c, v = .slice A (asks i).length c ∧ L' = [rowE (encI .i64) 3 A c (asks i)]) := by
  refine Tri.of' 23 [vIn i] [(0, vIn i)] Try.func23 Try.ntmps23 rfl rfl rfl ?_
  intro w0
  refine H.seq ?_
  refine H.region ?_
  refine HO.box rfl rfl (ltn rfl) ?_
  intro b1
  refine HO.v (V.assign rfl) (ltn rfl) ?_
  refine HO.nil ?_
  refine HQ.next ?_
  refine H.seq ?_
  refine H.seq ?_
  refine H.region ?_
  refine HO.v (V.fieldAddr (fs := #[]) fa50_0 rfl) (ltn rfl) ?_
  refine HO.v (V.load sc3 rfl (by exact .mk .here rfl)) (ltn rfl) ?_
  refine HO.nil ?_
  refine HQ.next ?_
  refine H.block ?_
  refine H.seq ?_
  refine H.seq ?_
  refine H.region ?_
  refine HO.v (V.eqlI rfl rfl) (ltn rfl) ?_
  refine HO.v (V.assign rfl) (ltn rfl) ?_
  refine HO.nil ?_
  refine HQ.keep (.cons (t := 1) rfl (.cons (t := 2) rfl (.cons (t := 4) rfl (.cons (t := 5) rfl (.nil))))) ?_
  refine HQ.next ?_
  refine H.condB rfl (fun h5 => ?_) (fun h5 => ?_)
  · skip
    try simp only [decide_eq_true_eq, decide_eq_false_iff_not, Bool.not_eq_true', Bool.not_eq_false'] at h5
    refine H.skip ?_
    refine HQ.next ?_
    refine H.condT rfl (by first | exact h5 | simpa using h5) ?_
    refine H.seq ?_
    refine H.region ?_
    refine HO.v (V.fieldAddr (fs := #[]) fa50_2 rfl) (ltn rfl) ?_
    refine HO.v (V.load sc3 rfl (by exact .mk .here rfl)) (ltn rfl) ?_
    refine HO.v (V.fieldAddr (fs := #[]) fa50_3 rfl) (ltn rfl) ?_
    refine HO.v (V.load sc3 rfl (by exact .mk .here rfl)) (ltn rfl) ?_
    refine HO.buildRow (encI .i64) ([i.a, i.b]) Try.underlying27 ze3 (.cons rfl (.cons rfl (.nil))) (.cons rfl (.cons rfl (.nil))) (Nat.le_of_ble_eq_true rfl) (Nat.le_of_ble_eq_true rfl) (ltn rfl) ?_
    intro b12
    refine HO.v (V.assign rfl) (ltn rfl) ?_
    refine HO.nil ?_
    refine HQ.keep (.cons (t := 2) rfl (.nil)) ?_
    refine HQ.next ?_
    refine H.ret ?_
    refine HQ.block_ret ?_
    refine HQ.then_ret ?_
    refine HQ.end_ rfl rfl rfl rfl (.inl rfl) _ (fun a w s => res1 Try.results23 s rfl) ?_
    first | exact asks_two (by simp_all) | exact asks_one (by omega) (by omega) | (exfalso; omega)
  · skip
    try simp only [decide_eq_true_eq, decide_eq_false_iff_not, Bool.not_eq_true', Bool.not_eq_false'] at h5
    refine H.region ?_
    refine HO.v (V.eqlI rfl rfl) (ltn rfl) ?_
    refine HO.v (V.assign rfl) (ltn rfl) ?_
    refine HO.nil ?_
    refine HQ.next ?_
    refine H.condB rfl (fun h5 => ?_) (fun h5 => ?_)
    · skip
      try simp only [decide_eq_true_eq, decide_eq_false_iff_not, Bool.not_eq_true', Bool.not_eq_false'] at h5
      refine H.seq ?_
      refine H.region ?_
      refine HO.v (V.fieldAddr (fs := #[]) fa50_2 rfl) (ltn rfl) ?_
      refine HO.v (V.load sc3 rfl (by exact .mk .here rfl)) (ltn rfl) ?_
      refine HO.v (V.fieldAddr (fs := #[]) fa50_3 rfl) (ltn rfl) ?_
      refine HO.v (V.load sc3 rfl (by exact .mk .here rfl)) (ltn rfl) ?_
      refine HO.buildRow (encI .i64) ([i.a, i.b]) Try.underlying27 ze3 (.cons rfl (.cons rfl (.nil))) (.cons rfl (.cons rfl (.nil))) (Nat.le_of_ble_eq_true rfl) (Nat.le_of_ble_eq_true rfl) (ltn rfl) ?_
      intro b12
      refine HO.v (V.assign rfl) (ltn rfl) ?_
      refine HO.nil ?_
      refine HQ.keep (.cons (t := 2) rfl (.nil)) ?_
      refine HQ.next ?_
      refine H.ret ?_
      refine HQ.block_ret ?_
      refine HQ.then_ret ?_
      refine HQ.end_ rfl rfl rfl rfl (.inl rfl) _ (fun a w s => res1 Try.results23 s rfl) ?_
      first | exact asks_two (by simp_all) | exact asks_one (by omega) (by omega) | (exfalso; omega)
    · skip
      try simp only [decide_eq_true_eq, decide_eq_false_iff_not, Bool.not_eq_true', Bool.not_eq_false'] at h5
      refine H.seq ?_
      refine H.seq ?_
      refine H.region ?_
      refine HO.v (V.eqlI rfl rfl) (ltn rfl) ?_
      refine HO.v (V.assign rfl) (ltn rfl) ?_
      refine HO.nil ?_
      refine HQ.keep (.cons (t := 1) rfl (.cons (t := 2) rfl (.cons (t := 4) rfl (.cons (t := 13) rfl (.nil))))) ?_
      refine HQ.next ?_
      refine H.condB rfl (fun h13 => ?_) (fun h13 => ?_)
      · skip
        try simp only [decide_eq_true_eq, decide_eq_false_iff_not, Bool.not_eq_true', Bool.not_eq_false'] at h13
        refine H.skip ?_
        refine HQ.next ?_
        refine H.condT rfl (by first | exact h13 | simpa using h13) ?_
        refine H.seq ?_
        refine H.region ?_
        refine HO.v (V.fieldAddr (fs := #[]) fa50_2 rfl) (ltn rfl) ?_
        refine HO.v (V.load sc3 rfl (by exact .mk .here rfl)) (ltn rfl) ?_
        refine HO.buildRow (encI .i64) ([i.a]) Try.underlying27 ze3 (.cons rfl (.nil)) (.cons rfl (.nil)) (Nat.le_of_ble_eq_true rfl) (Nat.le_of_ble_eq_true rfl) (ltn rfl) ?_
        intro b22
        refine HO.v (V.assign rfl) (ltn rfl) ?_
        refine HO.nil ?_
        refine HQ.keep (.cons (t := 2) rfl (.nil)) ?_
        refine HQ.next ?_
        refine H.ret ?_
        refine HQ.block_ret ?_
        refine HQ.then_ret ?_
        refine HQ.end_ rfl rfl rfl rfl (.inl rfl) _ (fun a w s => res1 Try.results23 s rfl) ?_
        first | exact asks_two (by simp_all) | exact asks_one (by omega) (by omega) | (exfalso; omega)
      · skip
        try simp only [decide_eq_true_eq, decide_eq_false_iff_not, Bool.not_eq_true', Bool.not_eq_false'] at h13
        refine H.seq ?_
        refine H.region ?_
        refine HO.v (V.eqlI rfl rfl) (ltn rfl) ?_
        refine HO.v (V.assign rfl) (ltn rfl) ?_
        refine HO.nil ?_
        refine HQ.next ?_
        refine H.condB rfl (fun h13 => ?_) (fun h13 => ?_)
        · skip
          try simp only [decide_eq_true_eq, decide_eq_false_iff_not, Bool.not_eq_true', Bool.not_eq_false'] at h13
          refine H.skip ?_
          refine HQ.next ?_
          refine H.condT rfl (by first | exact h13 | simpa using h13) ?_
          refine H.seq ?_
          refine H.region ?_
          refine HO.v (V.fieldAddr (fs := #[]) fa50_2 rfl) (ltn rfl) ?_
          refine HO.v (V.load sc3 rfl (by exact .mk .here rfl)) (ltn rfl) ?_
          refine HO.buildRow (encI .i64) ([i.a]) Try.underlying27 ze3 (.cons rfl (.nil)) (.cons rfl (.nil)) (Nat.le_of_ble_eq_true rfl) (Nat.le_of_ble_eq_true rfl) (ltn rfl) ?_
          intro b22
          refine HO.v (V.assign rfl) (ltn rfl) ?_
          refine HO.nil ?_
          refine HQ.keep (.cons (t := 2) rfl (.nil)) ?_
          refine HQ.next ?_
          refine H.ret ?_
          refine HQ.block_ret ?_
          refine HQ.then_ret ?_
          refine HQ.end_ rfl rfl rfl rfl (.inl rfl) _ (fun a w s => res1 Try.results23 s rfl) ?_
          first | exact asks_two (by simp_all) | exact asks_one (by omega) (by omega) | (exfalso; omega)
        · skip
          try simp only [decide_eq_true_eq, decide_eq_false_iff_not, Bool.not_eq_true', Bool.not_eq_false'] at h13
          refine H.seq ?_
          refine H.region ?_
          refine HO.v (V.eqlI rfl rfl) (ltn rfl) ?_
          refine HO.v (V.assign rfl) (ltn rfl) ?_
          refine HO.nil ?_
          refine HQ.next ?_
          refine H.condB rfl (fun h13 => ?_) (fun h13 => ?_)
          · skip
            try simp only [decide_eq_true_eq, decide_eq_false_iff_not, Bool.not_eq_true', Bool.not_eq_false'] at h13
            refine H.skip ?_
            refine HQ.next ?_
            refine H.condT rfl (by first | exact h13 | simpa using h13) ?_
            refine H.seq ?_
            refine H.region ?_
            refine HO.v (V.fieldAddr (fs := #[]) fa50_2 rfl) (ltn rfl) ?_
            refine HO.v (V.load sc3 rfl (by exact .mk .here rfl)) (ltn rfl) ?_
            refine HO.buildRow (encI .i64) ([i.a]) Try.underlying27 ze3 (.cons rfl (.nil)) (.cons rfl (.nil)) (Nat.le_of_ble_eq_true rfl) (Nat.le_of_ble_eq_true rfl) (ltn rfl) ?_
            intro b22
            refine HO.v (V.assign rfl) (ltn rfl) ?_
            refine HO.nil ?_
            refine HQ.keep (.cons (t := 2) rfl (.nil)) ?_
            refine HQ.next ?_
            refine H.ret ?_
            refine HQ.block_ret ?_
            refine HQ.then_ret ?_
            refine HQ.end_ rfl rfl rfl rfl (.inl rfl) _ (fun a w s => res1 Try.results23 s rfl) ?_
            first | exact asks_two (by simp_all) | exact asks_one (by omega) (by omega) | (exfalso; omega)
          · skip
            try simp only [decide_eq_true_eq, decide_eq_false_iff_not, Bool.not_eq_true', Bool.not_eq_false'] at h13
            refine H.seq ?_
            refine H.region ?_
            refine HO.v (V.eqlI rfl rfl) (ltn rfl) ?_
            refine HO.v (V.assign rfl) (ltn rfl) ?_
            refine HO.nil ?_
            refine HQ.keep (.cons (t := 1) rfl (.cons (t := 2) rfl (.cons (t := 4) rfl (.cons (t := 13) rfl (.nil))))) ?_
            refine HQ.next ?_
            refine H.condB rfl (fun h13 => ?_) (fun h13 => ?_)
            · skip
              try simp only [decide_eq_true_eq, decide_eq_false_iff_not, Bool.not_eq_true', Bool.not_eq_false'] at h13
              refine H.skip ?_
              refine HQ.next ?_
              refine H.condT rfl (by first | exact h13 | simpa using h13) ?_
              refine H.seq ?_
              refine H.region ?_
              refine HO.v (V.fieldAddr (fs := #[]) fa50_2 rfl) (ltn rfl) ?_
              refine HO.v (V.load sc3 rfl (by exact .mk .here rfl)) (ltn rfl) ?_
              refine HO.buildRow (encI .i64) ([i.a]) Try.underlying27 ze3 (.cons rfl (.nil)) (.cons rfl (.nil)) (Nat.le_of_ble_eq_true rfl) (Nat.le_of_ble_eq_true rfl) (ltn rfl) ?_
              intro b22
              refine HO.v (V.assign rfl) (ltn rfl) ?_
              refine HO.nil ?_
              refine HQ.keep (.cons (t := 2) rfl (.nil)) ?_
              refine HQ.next ?_
              refine H.ret ?_
              refine HQ.block_ret ?_
              refine HQ.then_ret ?_
              refine HQ.end_ rfl rfl rfl rfl (.inl rfl) _ (fun a w s => res1 Try.results23 s rfl) ?_
              first | exact asks_two (by simp_all) | exact asks_one (by omega) (by omega) | (exfalso; omega)
            · skip
              try simp only [decide_eq_true_eq, decide_eq_false_iff_not, Bool.not_eq_true', Bool.not_eq_false'] at h13
              refine H.seq ?_
              refine H.region ?_
              refine HO.v (V.eqlI rfl rfl) (ltn rfl) ?_
              refine HO.v (V.assign rfl) (ltn rfl) ?_
              refine HO.nil ?_
              refine HQ.next ?_
              refine H.condB rfl (fun h13 => ?_) (fun h13 => ?_)
              · skip
                try simp only [decide_eq_true_eq, decide_eq_false_iff_not, Bool.not_eq_true', Bool.not_eq_false'] at h13
                refine H.skip ?_
                refine HQ.next ?_
                refine H.condT rfl (by first | exact h13 | simpa using h13) ?_
                refine H.seq ?_
                refine H.region ?_
                refine HO.v (V.fieldAddr (fs := #[]) fa50_2 rfl) (ltn rfl) ?_
                refine HO.v (V.load sc3 rfl (by exact .mk .here rfl)) (ltn rfl) ?_
                refine HO.buildRow (encI .i64) ([i.a]) Try.underlying27 ze3 (.cons rfl (.nil)) (.cons rfl (.nil)) (Nat.le_of_ble_eq_true rfl) (Nat.le_of_ble_eq_true rfl) (ltn rfl) ?_
                intro b22
                refine HO.v (V.assign rfl) (ltn rfl) ?_
                refine HO.nil ?_
                refine HQ.keep (.cons (t := 2) rfl (.nil)) ?_
                refine HQ.next ?_
                refine H.ret ?_
                refine HQ.block_ret ?_
                refine HQ.then_ret ?_
                refine HQ.end_ rfl rfl rfl rfl (.inl rfl) _ (fun a w s => res1 Try.results23 s rfl) ?_
                first | exact asks_two (by simp_all) | exact asks_one (by omega) (by omega) | (exfalso; omega)
              · skip
                try simp only [decide_eq_true_eq, decide_eq_false_iff_not, Bool.not_eq_true', Bool.not_eq_false'] at h13
                refine H.region ?_
                refine HO.v (V.eqlI rfl rfl) (ltn rfl) ?_
                refine HO.v (V.assign rfl) (ltn rfl) ?_
                refine HO.nil ?_
                refine HQ.next ?_
                refine H.condB rfl (fun h13 => ?_) (fun h13 => ?_)
                · skip
                  try simp only [decide_eq_true_eq, decide_eq_false_iff_not, Bool.not_eq_true', Bool.not_eq_false'] at h13
                  refine H.seq ?_
                  refine H.region ?_
                  refine HO.v (V.fieldAddr (fs := #[]) fa50_2 rfl) (ltn rfl) ?_
                  refine HO.v (V.load sc3 rfl (by exact .mk .here rfl)) (ltn rfl) ?_
                  refine HO.buildRow (encI .i64) ([i.a]) Try.underlying27 ze3 (.cons rfl (.nil)) (.cons rfl (.nil)) (Nat.le_of_ble_eq_true rfl) (Nat.le_of_ble_eq_true rfl) (ltn rfl) ?_
                  intro b22
                  refine HO.v (V.assign rfl) (ltn rfl) ?_
                  refine HO.nil ?_
                  refine HQ.keep (.cons (t := 2) rfl (.nil)) ?_
                  refine HQ.next ?_
                  refine H.ret ?_
                  refine HQ.block_ret ?_
                  refine HQ.then_ret ?_
                  refine HQ.end_ rfl rfl rfl rfl (.inl rfl) _ (fun a w s => res1 Try.results23 s rfl) ?_
                  first | exact asks_two (by simp_all) | exact asks_one (by omega) (by omega) | (exfalso; omega)
                · skip
                  try simp only [decide_eq_true_eq, decide_eq_false_iff_not, Bool.not_eq_true', Bool.not_eq_false'] at h13
                  refine H.skip ?_
                  refine HQ.block_normal ?_
                  refine HQ.next ?_
                  refine H.seq ?_
                  refine H.region ?_
                  refine HO.v (V.assign rfl) (ltn rfl) ?_
                  refine HO.nil ?_
                  refine HQ.next ?_
                  refine H.ret ?_
                  refine HQ.end_ rfl rfl rfl rfl (.inl rfl) _ (fun a w s => res1 Try.results23 s rfl) ?_
                  first | exact asks_two (by simp_all) | exact asks_one (by omega) (by omega) | (exfalso; omega)
theorem may_w (i : Ins) (regs : Int) (hv : May i regs) :
    Tri Try.prog 21 #[vIn i, .int .i64 regs] [] [] (fun v L' => v = .bool true ∧ L' = []) := by
  obtain ⟨h1, h8, ht0, ht1, hb, hc, ha⟩ := hv
  have hal := asks_len i
  refine Tri.of' 57 [vIn i, .int .i64 regs] [(0, vIn i), (1, .int .i64 regs)] Try.func21 Try.ntmps21 rfl rfl rfl ?_
  intro w0
  refine H.seq ?_
  refine H.region ?_
  refine HO.box rfl rfl (ltn rfl) ?_
  intro b2
  refine HO.v (V.assign rfl) (ltn rfl) ?_
  refine HO.nil ?_
  refine HQ.next ?_
  refine H.seq ?_
  refine H.seq ?_
  refine H.region ?_
  refine HO.v (V.fieldAddr (fs := #[]) fa50_0 rfl) (ltn rfl) ?_
  refine HO.v (V.load sc3 rfl (by exact .mk .here rfl)) (ltn rfl) ?_
  refine HO.v (V.lss rfl rfl) (ltn rfl) ?_
  refine HO.v (V.move rfl) (ltn rfl) ?_
  refine HO.setF (t := 10) rfl (by simp; omega) ?_
  refine HO.gdo rfl rfl rfl rfl ?_
  refine HO.v (V.fieldAddr (fs := #[]) fa50_0 rfl) (ltn rfl) ?_
  refine HO.gdo rfl rfl rfl rfl ?_
  refine HO.v (V.load sc3 rfl (by exact .mk .here rfl)) (ltn rfl) ?_
  refine HO.gdo rfl rfl rfl rfl ?_
  refine HO.v (V.gtr rfl rfl) (ltn rfl) ?_
  refine HO.v (V.pickF rfl rfl) (ltn rfl) ?_
  refine HO.v (V.move rfl) (ltn rfl) ?_
  refine HO.setF (t := 15) rfl (by simp; omega) ?_
  refine HO.gdo rfl rfl rfl rfl ?_
  refine HO.v (V.fieldAddr (fs := #[]) fa50_1 rfl) (ltn rfl) ?_
  refine HO.gdo rfl rfl rfl rfl ?_
  refine HO.v (V.load sc3 rfl (by exact .mk .here rfl)) (ltn rfl) ?_
  refine HO.gdo rfl rfl rfl rfl ?_
  refine HO.v (V.lss rfl rfl) (ltn rfl) ?_
  refine HO.v (V.pickF rfl rfl) (ltn rfl) ?_
  refine HO.v (V.move rfl) (ltn rfl) ?_
  refine HO.setF (t := 20) rfl (by simp; omega) ?_
  refine HO.gdo rfl rfl rfl rfl ?_
  refine HO.v (V.fieldAddr (fs := #[]) fa50_1 rfl) (ltn rfl) ?_
  refine HO.gdo rfl rfl rfl rfl ?_
  refine HO.v (V.load sc3 rfl (by exact .mk .here rfl)) (ltn rfl) ?_
  refine HO.gdo rfl rfl rfl rfl ?_
  refine HO.v (V.move rfl) (ltn rfl) ?_
  refine HO.gdo rfl rfl rfl rfl ?_
  refine HO.v (V.geq rfl rfl) (ltn rfl) ?_
  refine HO.v (V.pickF rfl rfl) (ltn rfl) ?_
  refine HO.v (V.move rfl) (ltn rfl) ?_
  refine HO.setF (t := 26) rfl (by simp; omega) ?_
  refine HO.gdo rfl rfl rfl rfl ?_
  refine HO.v (V.fieldAddr (fs := #[]) fa50_0 rfl) (ltn rfl) ?_
  refine HO.gdo rfl rfl rfl rfl ?_
  refine HO.v (V.load sc3 rfl (by exact .mk .here rfl)) (ltn rfl) ?_
  refine HO.gdo rfl rfl rfl rfl ?_
  refine HO.call ca24 (.cons rfl (.nil)) (two_w _) (by exact Rems.nil) (by exact Reads.nil) (ltn rfl) ?_
  rintro v29 L29 ⟨rfl, rfl⟩
  dsimp only [List.nil_append, List.cons_append]
  refine HO.gdo rfl rfl rfl rfl ?_
  refine HO.v (V.not rfl) (ltn rfl) ?_
  refine HO.gdo rfl rfl rfl rfl ?_
  refine HO.v (V.move rfl) (ltn rfl) ?_
  refine HO.part (t := 31) rfl (fun g31 => ?_) (fun g31 => ?_)
  · skip
    try simp only [decide_eq_true_eq, decide_eq_false_iff_not, Bool.not_eq_true', Bool.not_eq_false'] at g31
    refine HO.gdo rfl rfl rfl rfl ?_
    refine HO.v (V.fieldAddr (fs := #[]) fa50_3 rfl) (ltn rfl) ?_
    refine HO.gdo rfl rfl rfl rfl ?_
    refine HO.v (V.load sc3 rfl (by exact .mk .here rfl)) (ltn rfl) ?_
    refine HO.gdo rfl rfl rfl rfl ?_
    refine HO.v (V.neqI rfl rfl) (ltn rfl) ?_
    refine HO.gdo rfl rfl rfl rfl ?_
    refine HO.v (V.pickT rfl rfl) (ltn rfl) ?_
    refine HO.v (V.pickF rfl rfl) (ltn rfl) ?_
    refine HO.v (V.move rfl) (ltn rfl) ?_
    refine HO.setF (t := 37) rfl (by simp [hb (by assumption)]) ?_
    refine HO.gdo rfl rfl rfl rfl ?_
    refine HO.v (V.loadA ag50 rfl (by exact .mk .here (by repeat constructor))) (ltn rfl) ?_
    refine HO.gdo rfl rfl rfl rfl ?_
    refine HO.call ca25 (.cons rfl (.nil)) (constant_w _) (by exact Rems.nil) (by exact Reads.nil) (ltn rfl) ?_
    rintro v39 L39 ⟨rfl, rfl⟩
    dsimp only [List.nil_append, List.cons_append]
    refine HO.gdo rfl rfl rfl rfl ?_
    refine HO.v (V.not rfl) (ltn rfl) ?_
    refine HO.v (V.pickF rfl rfl) (ltn rfl) ?_
    refine HO.nil ?_
    refine HQ.keep (.cons (t := 1) rfl (.cons (t := 2) rfl (.cons (t := 4) rfl (.cons (t := 41) rfl (.nil))))) ?_
    refine HQ.next ?_
    refine H.condF rfl (by simp [hc]) ?_
    refine H.skip ?_
    refine HQ.next ?_
    refine H.seq ?_
    refine H.seq ?_
    refine H.region ?_
    refine HO.v (V.loadA ag50 rfl (by exact .mk .here (by repeat constructor))) (ltn rfl) ?_
    refine HO.call ca23 (.cons rfl (.nil)) (asks_w i h1 h8) (by exact Rems.nil) (by exact Reads.nil) (ltn rfl) ?_
    rintro v43 L43 ⟨A, c, rfl, rfl⟩
    dsimp only [List.nil_append, List.cons_append]
    refine HO.v (V.len Try.underlying27 rfl) (ltn rfl) ?_
    refine HO.v (V.move rfl) (ltn rfl) ?_
    refine HO.nil ?_
    refine HQ.keep (.cons (t := 1) rfl (.cons (t := 4) rfl (.cons (t := 43) rfl (.cons (t := 44) rfl (.cons (t := 45) rfl (.nil)))))) ?_
    refine HQ.next ?_
    refine H.block ?_
    refine H.loop (σ := Nat) (fun s => (asks i).length - s) (fun s => [(1, .int .i64 regs), (43, .slice A (asks i).length c), (44, .int .i64 (((asks i).length : Nat) : Int)), (45, .int .i64 ((s : Nat) : Int))]) (fun s => [rowE (encI .i64) 3 A c (asks i)]) (fun s => s ≤ (asks i).length) (0) ?_ ?_ ?_
    · omega
    · skip
      exact HQ.fits (.cons rfl (.cons rfl (.cons rfl (.cons rfl (.nil))))) (by exact Rems.cons (by exact .here) (Rems.nil))
    intro s hI
    refine H.seq ?_
    refine H.region ?_
    refine HO.v (V.lss rfl rfl) (ltn rfl) ?_
    refine HO.nil ?_
    refine HQ.next ?_
    refine H.seq ?_
    refine H.condB rfl (fun h46 => ?_) (fun h46 => ?_)
    · skip
      try simp only [decide_eq_true_eq, decide_eq_false_iff_not, Bool.not_eq_true', Bool.not_eq_false'] at h46
      obtain ⟨r, hr⟩ : ∃ r, (asks i)[s]? = some r := ⟨_, List.getElem?_eq_getElem (by omega)⟩
      have hbr := ha r (List.mem_of_getElem? hr)
      refine H.skip ?_
      refine HQ.next ?_
      refine H.seq ?_
      refine H.block ?_
      refine H.seq ?_
      refine H.region ?_
      refine HO.v (V.indexAddr (N := (encI .i64)) (ys := _) Try.underlying27 sz3 rfl rfl (by omega) (by omega) (by exact Has.own .here)) (ltn rfl) ?_
      refine HO.v (V.loadE (N := (encI .i64)) sc3 rfl (by exact .mk (Has.own .here) (hr) rfl)) (ltn rfl) ?_
      refine HO.v (V.assign rfl) (ltn rfl) ?_
      refine HO.nil ?_
      refine HQ.next ?_
      refine H.seq ?_
      refine H.region ?_
      refine HO.v (V.move rfl) (ltn rfl) ?_
      refine HO.v (V.lss rfl rfl) (ltn rfl) ?_
      refine HO.v (V.move rfl) (ltn rfl) ?_
      refine HO.setF (t := 51) rfl (by simp; omega) ?_
      refine HO.gdo rfl rfl rfl rfl ?_
      refine HO.v (V.move rfl) (ltn rfl) ?_
      refine HO.gdo rfl rfl rfl rfl ?_
      refine HO.v (V.move rfl) (ltn rfl) ?_
      refine HO.gdo rfl rfl rfl rfl ?_
      refine HO.v (V.geq rfl rfl) (ltn rfl) ?_
      refine HO.v (V.pickF rfl rfl) (ltn rfl) ?_
      refine HO.nil ?_
      refine HQ.next ?_
      refine H.condF rfl (by simp; omega) ?_
      refine H.skip ?_
      refine HQ.block_normal ?_
      refine HQ.next ?_
      refine H.region ?_
      refine HO.v (V.add rfl rfl (by omega)) (ltn rfl) ?_
      refine HO.v (V.move rfl) (ltn rfl) ?_
      refine HO.nil ?_
      refine HQ.round (s + 1) ?_ ?_ ?_
      · omega
      · omega
      · skip
        exact HQ.fits (.cons rfl (.cons rfl (.cons rfl (.cons rfl (.nil))))) (by exact Rems.cons (by exact .here) (Rems.nil))
    · skip
      try simp only [decide_eq_true_eq, decide_eq_false_iff_not, Bool.not_eq_true', Bool.not_eq_false'] at h46
      refine H.exit ?_
      refine HQ.then_exit ?_
      refine HQ.then_exit ?_
      refine HQ.exit_hit ?_
      refine HQ.next ?_
      refine H.seq ?_
      refine H.region ?_
      refine HO.v (V.assign rfl) (ltn rfl) ?_
      refine HO.nil ?_
      refine HQ.next ?_
      refine H.ret ?_
      refine HQ.end_ rfl rfl rfl rfl (.inl rfl) _ (fun a w s => res1 Try.results21 s rfl) ?_
      exact ⟨_, _, .nil, rfl, rfl⟩
  · skip
    try simp only [decide_eq_true_eq, decide_eq_false_iff_not, Bool.not_eq_true', Bool.not_eq_false'] at g31
    refine HO.gskip rfl rfl rfl rfl (ltn rfl) ?_
    refine HO.gskip rfl rfl rfl rfl (ltn rfl) ?_
    refine HO.gskip rfl rfl rfl rfl (ltn rfl) ?_
    refine HO.gdo rfl rfl rfl rfl ?_
    refine HO.v (V.pickF rfl rfl) (ltn rfl) ?_
    refine HO.v (V.pickF rfl rfl) (ltn rfl) ?_
    refine HO.v (V.move rfl) (ltn rfl) ?_
    refine HO.gdo rfl rfl rfl rfl ?_
    refine HO.v (V.loadA ag50 rfl (by exact .mk .here (by repeat constructor))) (ltn rfl) ?_
    refine HO.gdo rfl rfl rfl rfl ?_
    refine HO.call ca25 (.cons rfl (.nil)) (constant_w _) (by exact Rems.nil) (by exact Reads.nil) (ltn rfl) ?_
    rintro v39 L39 ⟨rfl, rfl⟩
    dsimp only [List.nil_append, List.cons_append]
    refine HO.gdo rfl rfl rfl rfl ?_
    refine HO.v (V.not rfl) (ltn rfl) ?_
    refine HO.v (V.pickF rfl rfl) (ltn rfl) ?_
    refine HO.nil ?_
    refine HQ.keep (.cons (t := 1) rfl (.cons (t := 2) rfl (.cons (t := 4) rfl (.cons (t := 41) rfl (.nil))))) ?_
    refine HQ.next ?_
    refine H.condF rfl (by simp [hc]) ?_
    refine H.skip ?_
    refine HQ.next ?_
    refine H.seq ?_
    refine H.seq ?_
    refine H.region ?_
    refine HO.v (V.loadA ag50 rfl (by exact .mk .here (by repeat constructor))) (ltn rfl) ?_
    refine HO.call ca23 (.cons rfl (.nil)) (asks_w i h1 h8) (by exact Rems.nil) (by exact Reads.nil) (ltn rfl) ?_
    rintro v43 L43 ⟨A, c, rfl, rfl⟩
    dsimp only [List.nil_append, List.cons_append]
    refine HO.v (V.len Try.underlying27 rfl) (ltn rfl) ?_
    refine HO.v (V.move rfl) (ltn rfl) ?_
    refine HO.nil ?_
    refine HQ.keep (.cons (t := 1) rfl (.cons (t := 4) rfl (.cons (t := 43) rfl (.cons (t := 44) rfl (.cons (t := 45) rfl (.nil)))))) ?_
    refine HQ.next ?_
    refine H.block ?_
    refine H.loop (σ := Nat) (fun s => (asks i).length - s) (fun s => [(1, .int .i64 regs), (43, .slice A (asks i).length c), (44, .int .i64 (((asks i).length : Nat) : Int)), (45, .int .i64 ((s : Nat) : Int))]) (fun s => [rowE (encI .i64) 3 A c (asks i)]) (fun s => s ≤ (asks i).length) (0) ?_ ?_ ?_
    · omega
    · skip
      exact HQ.fits (.cons rfl (.cons rfl (.cons rfl (.cons rfl (.nil))))) (by exact Rems.cons (by exact .here) (Rems.nil))
    intro s hI
    refine H.seq ?_
    refine H.region ?_
    refine HO.v (V.lss rfl rfl) (ltn rfl) ?_
    refine HO.nil ?_
    refine HQ.next ?_
    refine H.seq ?_
    refine H.condB rfl (fun h46 => ?_) (fun h46 => ?_)
    · skip
      try simp only [decide_eq_true_eq, decide_eq_false_iff_not, Bool.not_eq_true', Bool.not_eq_false'] at h46
      obtain ⟨r, hr⟩ : ∃ r, (asks i)[s]? = some r := ⟨_, List.getElem?_eq_getElem (by omega)⟩
      have hbr := ha r (List.mem_of_getElem? hr)
      refine H.skip ?_
      refine HQ.next ?_
      refine H.seq ?_
      refine H.block ?_
      refine H.seq ?_
      refine H.region ?_
      refine HO.v (V.indexAddr (N := (encI .i64)) (ys := _) Try.underlying27 sz3 rfl rfl (by omega) (by omega) (by exact Has.own .here)) (ltn rfl) ?_
      refine HO.v (V.loadE (N := (encI .i64)) sc3 rfl (by exact .mk (Has.own .here) (hr) rfl)) (ltn rfl) ?_
      refine HO.v (V.assign rfl) (ltn rfl) ?_
      refine HO.nil ?_
      refine HQ.next ?_
      refine H.seq ?_
      refine H.region ?_
      refine HO.v (V.move rfl) (ltn rfl) ?_
      refine HO.v (V.lss rfl rfl) (ltn rfl) ?_
      refine HO.v (V.move rfl) (ltn rfl) ?_
      refine HO.setF (t := 51) rfl (by simp; omega) ?_
      refine HO.gdo rfl rfl rfl rfl ?_
      refine HO.v (V.move rfl) (ltn rfl) ?_
      refine HO.gdo rfl rfl rfl rfl ?_
      refine HO.v (V.move rfl) (ltn rfl) ?_
      refine HO.gdo rfl rfl rfl rfl ?_
      refine HO.v (V.geq rfl rfl) (ltn rfl) ?_
      refine HO.v (V.pickF rfl rfl) (ltn rfl) ?_
      refine HO.nil ?_
      refine HQ.next ?_
      refine H.condF rfl (by simp; omega) ?_
      refine H.skip ?_
      refine HQ.block_normal ?_
      refine HQ.next ?_
      refine H.region ?_
      refine HO.v (V.add rfl rfl (by omega)) (ltn rfl) ?_
      refine HO.v (V.move rfl) (ltn rfl) ?_
      refine HO.nil ?_
      refine HQ.round (s + 1) ?_ ?_ ?_
      · omega
      · omega
      · skip
        exact HQ.fits (.cons rfl (.cons rfl (.cons rfl (.cons rfl (.nil))))) (by exact Rems.cons (by exact .here) (Rems.nil))
    · skip
      try simp only [decide_eq_true_eq, decide_eq_false_iff_not, Bool.not_eq_true', Bool.not_eq_false'] at h46
      refine H.exit ?_
      refine HQ.then_exit ?_
      refine HQ.then_exit ?_
      refine HQ.exit_hit ?_
      refine HQ.next ?_
      refine H.seq ?_
      refine H.region ?_
      refine HO.v (V.assign rfl) (ltn rfl) ?_
      refine HO.nil ?_
      refine HQ.next ?_
      refine H.ret ?_
      refine HQ.end_ rfl rfl rfl rfl (.inl rfl) _ (fun a w s => res1 Try.results21 s rfl) ?_
      exact ⟨_, _, .nil, rfl, rfl⟩
theorem check_w (p : Prg) (A : Option Addr) (n : Nat) (B : Option Addr) (m : Nat) (hv : Right p) :
    Tri Try.prog 15 #[vPg p A n B m] [roE encIn A p.code, roE (encI .i64) B p.outs] [] (fun v L' => v = .tuple #[.int .i64 0, .int .i64 0] ∧ L' = []) := by
  obtain ⟨hi1, hi2, hr, hcl, ho1, ho2, ho, hm⟩ := hv
  refine Tri.of' 72 [vPg p A n B m] [(0, vPg p A n B m)] Try.func15 Try.ntmps15 rfl rfl rfl ?_
  intro w0
  refine H.seq ?_
  refine H.region ?_
  refine HO.box rfl rfl (ltn rfl) ?_
  intro b1
  refine HO.v (V.assign rfl) (ltn rfl) ?_
  refine HO.v (V.assign rfl) (ltn rfl) ?_
  refine HO.nil ?_
  refine HQ.next ?_
  refine H.seq ?_
  refine H.seq ?_
  refine H.region ?_
  refine HO.v (V.fieldAddr (fs := #[]) fa29_0 rfl) (ltn rfl) ?_
  refine HO.v (V.load sc3 rfl (by exact .mk .here rfl)) (ltn rfl) ?_
  refine HO.v (V.lss rfl rfl) (ltn rfl) ?_
  refine HO.v (V.move rfl) (ltn rfl) ?_
  refine HO.setF (t := 11) rfl (by simp; omega) ?_
  refine HO.gdo rfl rfl rfl rfl ?_
  refine HO.v (V.fieldAddr (fs := #[]) fa29_0 rfl) (ltn rfl) ?_
  refine HO.gdo rfl rfl rfl rfl ?_
  refine HO.v (V.load sc3 rfl (by exact .mk .here rfl)) (ltn rfl) ?_
  refine HO.gdo rfl rfl rfl rfl ?_
  refine HO.v (V.fieldAddr (fs := #[]) fa29_1 rfl) (ltn rfl) ?_
  refine HO.gdo rfl rfl rfl rfl ?_
  refine HO.v (V.load sc3 rfl (by exact .mk .here rfl)) (ltn rfl) ?_
  refine HO.gdo rfl rfl rfl rfl ?_
  refine HO.v (V.gtr rfl rfl) (ltn rfl) ?_
  refine HO.v (V.pickF rfl rfl) (ltn rfl) ?_
  refine HO.v (V.move rfl) (ltn rfl) ?_
  refine HO.setF (t := 18) rfl (by simp; omega) ?_
  refine HO.gdo rfl rfl rfl rfl ?_
  refine HO.v (V.fieldAddr (fs := #[]) fa29_1 rfl) (ltn rfl) ?_
  refine HO.gdo rfl rfl rfl rfl ?_
  refine HO.v (V.load sc3 rfl (by exact .mk .here rfl)) (ltn rfl) ?_
  refine HO.gdo rfl rfl rfl rfl ?_
  refine HO.v (V.gtr rfl rfl) (ltn rfl) ?_
  refine HO.v (V.pickF rfl rfl) (ltn rfl) ?_
  refine HO.v (V.move rfl) (ltn rfl) ?_
  refine HO.setF (t := 23) rfl (by simp; omega) ?_
  refine HO.gdo rfl rfl rfl rfl ?_
  refine HO.v (V.fieldAddr (fs := #[]) fa29_2 rfl) (ltn rfl) ?_
  refine HO.gdo rfl rfl rfl rfl ?_
  refine HO.v (V.load sc26 rfl (by exact .mk .here rfl)) (ltn rfl) ?_
  refine HO.gdo rfl rfl rfl rfl ?_
  refine HO.v (V.len Try.underlying26 rfl) (ltn rfl) ?_
  refine HO.gdo rfl rfl rfl rfl ?_
  refine HO.v (V.gtr rfl rfl) (ltn rfl) ?_
  refine HO.v (V.pickF rfl rfl) (ltn rfl) ?_
  refine HO.v (V.move rfl) (ltn rfl) ?_
  refine HO.setF (t := 29) rfl (by simp; omega) ?_
  refine HO.gdo rfl rfl rfl rfl ?_
  refine HO.v (V.fieldAddr (fs := #[]) fa29_3 rfl) (ltn rfl) ?_
  refine HO.gdo rfl rfl rfl rfl ?_
  refine HO.v (V.load sc27 rfl (by exact .mk .here rfl)) (ltn rfl) ?_
  refine HO.gdo rfl rfl rfl rfl ?_
  refine HO.v (V.len Try.underlying27 rfl) (ltn rfl) ?_
  refine HO.gdo rfl rfl rfl rfl ?_
  refine HO.v (V.lss rfl rfl) (ltn rfl) ?_
  refine HO.v (V.pickF rfl rfl) (ltn rfl) ?_
  refine HO.v (V.move rfl) (ltn rfl) ?_
  refine HO.setF (t := 35) rfl (by simp; omega) ?_
  refine HO.gdo rfl rfl rfl rfl ?_
  refine HO.v (V.fieldAddr (fs := #[]) fa29_3 rfl) (ltn rfl) ?_
  refine HO.gdo rfl rfl rfl rfl ?_
  refine HO.v (V.load sc27 rfl (by exact .mk .here rfl)) (ltn rfl) ?_
  refine HO.gdo rfl rfl rfl rfl ?_
  refine HO.v (V.len Try.underlying27 rfl) (ltn rfl) ?_
  refine HO.gdo rfl rfl rfl rfl ?_
  refine HO.v (V.gtr rfl rfl) (ltn rfl) ?_
  refine HO.v (V.pickF rfl rfl) (ltn rfl) ?_
  refine HO.nil ?_
  refine HQ.keep (.cons (t := 1) rfl (.cons (t := 2) rfl (.cons (t := 3) rfl (.cons (t := 40) rfl (.nil))))) ?_
  refine HQ.next ?_
  refine H.condF rfl (by simp; omega) ?_
  refine H.skip ?_
  refine HQ.next ?_
  refine H.seq ?_
  refine H.seq ?_
  refine H.region ?_
  refine HO.v (V.fieldAddr (fs := #[]) fa29_3 rfl) (ltn rfl) ?_
  refine HO.v (V.load sc27 rfl (by exact .mk .here rfl)) (ltn rfl) ?_
  refine HO.v (V.len Try.underlying27 rfl) (ltn rfl) ?_
  refine HO.v (V.move rfl) (ltn rfl) ?_
  refine HO.nil ?_
  refine HQ.keep (.cons (t := 1) rfl (.cons (t := 2) rfl (.cons (t := 3) rfl (.cons (t := 42) rfl (.cons (t := 43) rfl (.cons (t := 44) rfl (.nil))))))) ?_
  refine HQ.next ?_
  refine H.block ?_
  refine H.loop (σ := Nat) (fun s => p.outs.length - s) (fun s => [(1, .pointer (some ⟨b1, 0, none⟩)), (42, .slice B p.outs.length m), (43, .int .i64 ((p.outs.length : Nat) : Int)), (44, .int .i64 ((s : Nat) : Int))]) (fun s => [cellsCh b1 29 [.int .i64 p.ins, .int .i64 p.regs, .slice A p.code.length n, .slice B p.outs.length m]]) (fun s => s ≤ p.outs.length) (0) ?_ ?_ ?_
  · omega
  · skip
    exact HQ.fits (.cons rfl (.cons rfl (.cons rfl (.cons rfl (.nil))))) (by exact Rems.cons (by exact .here) (Rems.nil))
  intro s hI
  refine H.seq ?_
  refine H.region ?_
  refine HO.v (V.lss rfl rfl) (ltn rfl) ?_
  refine HO.nil ?_
  refine HQ.next ?_
  refine H.seq ?_
  refine H.condB rfl (fun h45 => ?_) (fun h45 => ?_)
  · skip
    try simp only [decide_eq_true_eq, decide_eq_false_iff_not, Bool.not_eq_true', Bool.not_eq_false'] at h45
    obtain ⟨r, hr⟩ : ∃ r, p.outs[s]? = some r := ⟨_, List.getElem?_eq_getElem (by omega)⟩
    have hbr := ho r (List.mem_of_getElem? hr)
    refine H.skip ?_
    refine HQ.next ?_
    refine H.seq ?_
    refine H.block ?_
    refine H.seq ?_
    refine H.region ?_
    refine HO.v (V.indexAddr (N := (encI .i64)) (ys := _) Try.underlying27 sz3 rfl rfl (by omega) (by omega) (by exact Has.ro (.tail _ (.head _)))) (ltn rfl) ?_
    refine HO.v (V.loadE (N := (encI .i64)) sc3 rfl (by exact .mk (Has.ro (.tail _ (.head _))) (hr) rfl)) (ltn rfl) ?_
    refine HO.v (V.assign rfl) (ltn rfl) ?_
    refine HO.nil ?_
    refine HQ.next ?_
    refine H.seq ?_
    refine H.region ?_
    refine HO.v (V.move rfl) (ltn rfl) ?_
    refine HO.v (V.lss rfl rfl) (ltn rfl) ?_
    refine HO.v (V.move rfl) (ltn rfl) ?_
    refine HO.setF (t := 50) rfl (by simp; omega) ?_
    refine HO.gdo rfl rfl rfl rfl ?_
    refine HO.v (V.move rfl) (ltn rfl) ?_
    refine HO.gdo rfl rfl rfl rfl ?_
    refine HO.v (V.fieldAddr (fs := #[]) fa29_1 rfl) (ltn rfl) ?_
    refine HO.gdo rfl rfl rfl rfl ?_
    refine HO.v (V.load sc3 rfl (by exact .mk .here rfl)) (ltn rfl) ?_
    refine HO.gdo rfl rfl rfl rfl ?_
    refine HO.v (V.geq rfl rfl) (ltn rfl) ?_
    refine HO.v (V.pickF rfl rfl) (ltn rfl) ?_
    refine HO.nil ?_
    refine HQ.next ?_
    refine H.condF rfl (by simp; omega) ?_
    refine H.skip ?_
    refine HQ.block_normal ?_
    refine HQ.next ?_
    refine H.region ?_
    refine HO.v (V.add rfl rfl (by omega)) (ltn rfl) ?_
    refine HO.v (V.move rfl) (ltn rfl) ?_
    refine HO.nil ?_
    refine HQ.round (s + 1) ?_ ?_ ?_
    · omega
    · omega
    · skip
      exact HQ.fits (.cons rfl (.cons rfl (.cons rfl (.cons rfl (.nil))))) (by exact Rems.cons (by exact .here) (Rems.nil))
  · skip
    try simp only [decide_eq_true_eq, decide_eq_false_iff_not, Bool.not_eq_true', Bool.not_eq_false'] at h45
    refine H.exit ?_
    refine HQ.then_exit ?_
    refine HQ.then_exit ?_
    refine HQ.exit_hit ?_
    refine HQ.next ?_
    refine H.seq ?_
    refine H.seq ?_
    refine H.region ?_
    refine HO.v (V.fieldAddr (fs := #[]) fa29_2 rfl) (ltn rfl) ?_
    refine HO.v (V.load sc26 rfl (by exact .mk .here rfl)) (ltn rfl) ?_
    refine HO.v (V.len Try.underlying26 rfl) (ltn rfl) ?_
    refine HO.v (V.move rfl) (ltn rfl) ?_
    refine HO.nil ?_
    refine HQ.keep (.cons (t := 1) rfl (.cons (t := 58) rfl (.cons (t := 59) rfl (.cons (t := 60) rfl (.nil))))) ?_
    refine HQ.next ?_
    refine H.block ?_
    refine H.loop (σ := Nat) (fun s => p.code.length - s) (fun s => [(1, .pointer (some ⟨b1, 0, none⟩)), (58, .slice A p.code.length n), (59, .int .i64 ((p.code.length : Nat) : Int)), (60, .int .i64 ((s : Nat) : Int))]) (fun s => [cellsCh b1 29 [.int .i64 p.ins, .int .i64 p.regs, .slice A p.code.length n, .slice B p.outs.length m]]) (fun s => s ≤ p.code.length) (0) ?_ ?_ ?_
    · omega
    · skip
      exact HQ.fits (.cons rfl (.cons rfl (.cons rfl (.cons rfl (.nil))))) (by exact Rems.cons (by exact .here) (Rems.nil))
    intro s hI
    refine H.seq ?_
    refine H.region ?_
    refine HO.v (V.lss rfl rfl) (ltn rfl) ?_
    refine HO.nil ?_
    refine HQ.next ?_
    refine H.seq ?_
    refine H.condB rfl (fun h61 => ?_) (fun h61 => ?_)
    · skip
      try simp only [decide_eq_true_eq, decide_eq_false_iff_not, Bool.not_eq_true', Bool.not_eq_false'] at h61
      obtain ⟨i, hi⟩ : ∃ i, p.code[s]? = some i := ⟨_, List.getElem?_eq_getElem (by omega)⟩
      have hmi := hm i (List.mem_of_getElem? hi)
      refine H.skip ?_
      refine HQ.next ?_
      refine H.seq ?_
      refine H.block ?_
      refine H.seq ?_
      refine H.region ?_
      refine HO.v (V.move rfl) (ltn rfl) ?_
      refine HO.v (V.indexAddr (N := encIn) (ys := _) Try.underlying26 sz50 rfl rfl (by omega) (by omega) (by exact Has.ro (.head _))) (ltn rfl) ?_
      refine HO.v (V.loadEA (N := encIn) ag50 rfl (by exact .mk (Has.ro (.head _)) (hi) rfl)) (ltn rfl) ?_
      refine HO.alloc ze50 rfl (ltn rfl) ?_
      intro b7
      refine HO.v (V.assign rfl) (ltn rfl) ?_
      refine HO.store sz50 rfl rfl rfl rfl rfl (by exact .mk .here (by repeat constructor)) ?_
      refine HO.nil ?_
      refine HQ.next ?_
      refine H.seq ?_
      refine H.region ?_
      refine HO.v (V.loadA ag50 rfl (by exact .mk .here (by repeat constructor))) (ltn rfl) ?_
      refine HO.v (V.fieldAddr (fs := #[]) fa29_1 rfl) (ltn rfl) ?_
      refine HO.v (V.load sc3 rfl (by exact .mk (.there .here) rfl)) (ltn rfl) ?_
      refine HO.call ca21 (.cons rfl (.cons rfl (.nil))) (may_w i p.regs hmi) (by exact Rems.nil) (by exact Reads.nil) (ltn rfl) ?_
      rintro v68 L68 ⟨rfl, rfl⟩
      dsimp only [List.nil_append, List.cons_append]
      refine HO.v (V.not rfl) (ltn rfl) ?_
      refine HO.nil ?_
      refine HQ.next ?_
      refine H.condF rfl rfl ?_
      refine H.skip ?_
      refine HQ.block_normal ?_
      refine HQ.next ?_
      refine H.region ?_
      refine HO.v (V.add rfl rfl (by omega)) (ltn rfl) ?_
      refine HO.v (V.move rfl) (ltn rfl) ?_
      refine HO.nil ?_
      refine HQ.round (s + 1) ?_ ?_ ?_
      · omega
      · omega
      · skip
        exact HQ.fits (.cons rfl (.cons rfl (.cons rfl (.cons rfl (.nil))))) (by exact Rems.cons (by exact (.there .here)) (Rems.nil))
    · skip
      try simp only [decide_eq_true_eq, decide_eq_false_iff_not, Bool.not_eq_true', Bool.not_eq_false'] at h61
      refine H.exit ?_
      refine HQ.then_exit ?_
      refine HQ.then_exit ?_
      refine HQ.exit_hit ?_
      refine HQ.next ?_
      refine H.seq ?_
      refine H.region ?_
      refine HO.v (V.assign rfl) (ltn rfl) ?_
      refine HO.v (V.assign rfl) (ltn rfl) ?_
      refine HO.nil ?_
      refine HQ.keep (.cons (t := 2) rfl (.cons (t := 3) rfl (.nil))) ?_
      refine HQ.next ?_
      refine H.ret ?_
      refine HQ.end_ rfl rfl rfl rfl (.inl rfl) _ (fun a w s => res2 Try.results15 s rfl rfl) ?_
      exact ⟨_, _, .nil, rfl, rfl⟩

end Go.Proofs.Ytcmlghemanjaaaa
