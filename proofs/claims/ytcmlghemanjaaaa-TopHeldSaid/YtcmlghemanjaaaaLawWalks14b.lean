/- Walks of the law of values: the check of one program. Conditions: as the theorems say. -/
import Derived.Test.YtcmlghemanjaaaaLawWalks14a
set_option linter.unusedVariables false
set_option linter.unusedSimpArgs false
set_option maxRecDepth 10000
namespace Go.Proofs.Ytcmlghemanjaaaa
open Go Go.RowKit Sl Pg

set_option maxRecDepth 100000
theorem ag43 : Aggr Go.Proofs.Try.prog 43 2 := ⟨by kernel_rfl, by kernel_rfl⟩
theorem ca10 : Callable Go.Proofs.Try.prog 10 := by unfold Callable; kernel_rfl
theorem ca11 : Callable Go.Proofs.Try.prog 11 := by unfold Callable; kernel_rfl
theorem ca12 : Callable Go.Proofs.Try.prog 12 := by unfold Callable; kernel_rfl
theorem ca20 : Callable Go.Proofs.Try.prog 20 := by unfold Callable; kernel_rfl
theorem ca7 : Callable Go.Proofs.Try.prog 7 := by unfold Callable; kernel_rfl
theorem ca8 : Callable Go.Proofs.Try.prog 8 := by unfold Callable; kernel_rfl
theorem ca9 : Callable Go.Proofs.Try.prog 9 := by unfold Callable; kernel_rfl
theorem ia43 : IntArr Go.Proofs.Try.prog 43 2 := ⟨_, Go.Proofs.Try.underlying43, by kernel_rfl, by kernel_rfl, by kernel_rfl, by kernel_rfl⟩
theorem if50 : IntFields Go.Proofs.Try.prog 50 5 := ⟨_, Go.Proofs.Try.underlying50, by kernel_rfl, by kernel_rfl, rfl, by kernel_rfl⟩
theorem sc4 : Scal Go.Proofs.Try.prog 4 := ⟨by kernel_rfl, by kernel_rfl⟩
theorem sc42 : Scal Go.Proofs.Try.prog 42 := ⟨by kernel_rfl, by kernel_rfl⟩
theorem sz4 : (Go.Proofs.Try.prog.info? 4).map (·.size) = some 1 := by kernel_rfl
theorem sz42 : (Go.Proofs.Try.prog.info? 42).map (·.size) = some 1 := by kernel_rfl
theorem sz43 : (Go.Proofs.Try.prog.info? 43).map (·.size) = some 2 := by kernel_rfl
theorem ze4 : TyZ Go.Proofs.Try.prog 4 (.bool false) 1 1 := by unfold TyZ; kernel_rfl
theorem ze42 : TyZ Go.Proofs.Try.prog 42 (.slice none 0 0) 1 24 := by unfold TyZ; kernel_rfl
theorem ze43 : TyZ Go.Proofs.Try.prog 43 (.agg #[(.int .i64 0), (.int .i64 0)]) 2 16 := by unfold TyZ; kernel_rfl
set_option maxRecDepth 10000

theorem add14_w (a b c : Int) :
    Tri Try.prog 13 #[.int .i64 a, .int .i64 b, .int .i64 c] [] [] (fun v L' => v = vIn ⟨3, a, b, c, 0⟩ ∧ L' = []) := by
  refine Tri.of' 11 [.int .i64 a, .int .i64 b, .int .i64 c] [(0, .int .i64 a), (1, .int .i64 b), (2, .int .i64 c)] Try.func13 Try.ntmps13 rfl rfl rfl ?_
  intro w0
  refine H.seq ?_
  refine H.region ?_
  refine HO.alloc ze50 rfl (ltn rfl) ?_
  intro b6
  refine HO.nil ?_
  refine HQ.next ?_
  refine H.seq ?_
  refine H.region ?_
  refine HO.v (V.move rfl) (ltn rfl) ?_
  refine HO.v (V.move rfl) (ltn rfl) ?_
  refine HO.v (V.move rfl) (ltn rfl) ?_
  refine HO.v (V.build ze50 pl50 rfl (.cons rfl (.cons rfl (.cons rfl (.cons rfl (.nil))))) (.cons rfl rfl rfl (by repeat constructor) (.cons rfl rfl rfl (by repeat constructor) (.cons rfl rfl rfl (by repeat constructor) (.cons rfl rfl rfl (by repeat constructor) (.nil)))))) (ltn rfl) ?_
  refine HO.store sz50 rfl rfl rfl rfl rfl (by exact .mk .here (by repeat constructor)) ?_
  refine HO.nil ?_
  refine HQ.keep (.cons (t := 6) rfl (.nil)) ?_
  refine HQ.next ?_
  refine H.ret ?_
  refine HQ.end_ rfl rfl rfl rfl (.inl rfl) _ (fun a w s => resR1 Try.results13 s (.agg ag50 rfl (by exact .mk .here (by repeat constructor)))) ?_
  refine ⟨[], _, (by exact Rems.nil), ?_⟩
  exact ⟨rfl, rfl⟩
theorem copy14_w (p : Prg) (A : Option Addr) (n : Nat) (Bo : Option Addr) (m : Nat) (hc : p.code.length ≤ 16384) (ho : p.outs.length ≤ 128) :
    Tri Try.prog 9 #[vPg p A n Bo m] [roE encIn A p.code, roE (encI .i64) Bo p.outs] [] (fun v L' => ∃ C k D j, v = vPg p C k D j ∧ L' = [rowE encIn 50 C k p.code, rowE (encI .i64) 3 D j p.outs]) := by
  refine Tri.of' 12 [vPg p A n Bo m] [(0, vPg p A n Bo m)] Try.func9 Try.ntmps9 rfl rfl rfl ?_
  intro w0
  refine H.seq ?_
  refine H.region ?_
  refine HO.box rfl rfl (ltn rfl) ?_
  intro b1
  refine HO.alloc ze29 rfl (ltn rfl) ?_
  intro b2
  refine HO.nil ?_
  refine HQ.next ?_
  refine H.seq ?_
  refine H.drawsP [cellsCh b1 _ _] [7, 9] [[], [0], [1], [], [3], [4, 2], [0, 1, 2, 3, 4], [6, 2, 5, 0, 1, 2, 3, 4], [0, 1, 2, 3, 4, 5, 6, 7], [8, 5, 7, 0, 1, 2, 3, 4, 5, 6, 7]] (.take 0 (.take 1 (.take 3 (.take 4 (.one 2 (.take 6 (.one 5 (.one 7 (.one 8 (.one 9 .done)))))))))) (.cons (by exact (.tail _ (.head _))) (.nil)) (by kernel_rfl) (by kernel_rfl) (by kernel_rfl) (by kernel_rfl) (by kernel_rfl) ?_
  refine HP.take (i := 0) rfl rfl (ltn rfl) (gives_of want_none (V.fieldAddr (fs := #[]) fa29_2 rfl)) (.cons (by exact (.tail _ (.head _))) (Sub.nil)) ?_
  refine HP.take (i := 1) rfl rfl (ltn rfl) (gives_of want_none (V.load sc26 rfl (by exact .mk .here rfl))) (.cons (by exact (.tail _ (.head _))) (Sub.nil)) ?_
  refine HP.take (i := 3) rfl rfl (ltn rfl) (gives_of want_none (V.fieldAddr (fs := #[]) fa29_3 rfl)) (.cons (by exact (.tail _ (.head _))) (Sub.nil)) ?_
  refine HP.take (i := 4) rfl rfl (ltn rfl) (gives_of want_none (V.load sc27 rfl (by exact .mk .here rfl))) (.cons (by exact (.tail _ (.head _))) (Sub.nil)) ?_
  refine HP.one (i := 2) rfl ?_
  intro fuel listed hno haf hrp hpk hfs
  refine HO.appendNil encIn (p.code) Try.underlying26 ze50 rfl rfl rfl (by exact Has.ro (.head _)) (by first | omega | (simp; omega)) (by decide) (ltn rfl) ?_
  intro A5 c5
  refine HO.nil ?_
  refine HQ.nxt hno haf hrp hpk hfs (.cons (by exact (.tail _ (.tail _ (.head _)))) (Sub.nil)) ?_
  refine HP.take (i := 6) rfl rfl (ltn rfl) (gives_of want_none (V.fieldAddr (fs := #[]) fa29_2 rfl)) (.cons (by exact (.tail _ (.tail _ (.head _)))) (Sub.nil)) ?_
  refine HP.one (i := 5) rfl ?_
  intro fuel listed hno haf hrp hpk hfs
  refine HO.appendNil (encI .i64) (p.outs) Try.underlying27 ze3 rfl rfl rfl (by exact Has.ro (.tail _ (.head _))) (by first | omega | (simp; omega)) (by decide) (ltn rfl) ?_
  intro A8 c8
  refine HO.nil ?_
  refine HQ.nxt hno haf hrp hpk hfs (.cons (by exact (.tail _ (.tail _ (.tail _ (.head _))))) (Sub.nil)) ?_
  refine HP.one (i := 7) rfl ?_
  intro fuel listed hno haf hrp hpk hfs
  refine HO.store sz26 rfl rfl rfl rfl rfl (by exact .mk (.there (.there (.there .here))) (by repeat constructor)) ?_
  refine HO.nil ?_
  refine HQ.nxtF (m := 7) hno haf hrp hpk hfs (by decide) (by kernel_rfl) rfl ?_
  refine HP.one (i := 8) rfl ?_
  intro fuel listed hno haf hrp hpk hfs
  refine HO.v (V.fieldAddr (fs := #[]) fa29_3 rfl) (ltn rfl) ?_
  refine HO.nil ?_
  refine HQ.nxtF (m := 7) hno haf hrp hpk hfs (by decide) (by kernel_rfl) rfl ?_
  refine HP.one (i := 9) rfl ?_
  intro fuel listed hno haf hrp hpk hfs
  refine HO.store sz27 rfl rfl rfl rfl rfl (by exact .mk .here (by repeat constructor)) ?_
  refine HO.nil ?_
  refine HQ.nxtF (m := 7) hno haf hrp hpk hfs (by decide) (by kernel_rfl) rfl ?_
  refine HP.done ?_
  refine HQ.keep (.cons (t := 1) rfl (.cons (t := 2) rfl (.nil))) ?_
  refine HQ.next ?_
  refine H.seq ?_
  refine H.region ?_
  refine HO.v (V.loadA ag29 rfl (by exact .mk .here (by repeat constructor))) (ltn rfl) ?_
  refine HO.store sz29 rfl rfl rfl rfl rfl (by exact .mk (.there (.there (.there .here))) (by repeat constructor)) ?_
  refine HO.nil ?_
  refine HQ.next ?_
  refine H.ret ?_
  refine HQ.end_ rfl rfl rfl rfl (.inl rfl) _ (fun a w s => resR1 Try.results9 s (.agg ag29 rfl (by exact .mk .here (by repeat constructor)))) ?_
  refine ⟨[rowE encIn 50 A5 c5 p.code, rowE (encI .i64) 3 A8 c8 p.outs], _, (by exact Rems.cons (by exact (.there (.there (.there .here)))) (Rems.cons (by exact (.there (.there .here))) (Rems.nil))), ?_⟩
  exact ⟨_, _, _, _, rfl, rfl⟩
theorem same14_w (p : Prg) (A : Option Addr) (n : Nat) (Bo : Option Addr) (m : Nat) (A2 : Option Addr) (n2 : Nat) (B2 : Option Addr) (m2 : Nat) (hc : p.code.length ≤ 16384) (ho : p.outs.length ≤ 128) :
    Tri Try.prog 11 #[vPg p A n Bo m, .slice A2 p.code.length n2, .slice B2 p.outs.length m2] [roE encIn A p.code, roE (encI .i64) Bo p.outs, roE encIn A2 p.code, roE (encI .i64) B2 p.outs] [] (fun v L' => v = .bool true ∧ L' = []) := by
  refine Tri.of' 55 [vPg p A n Bo m, .slice A2 p.code.length n2, .slice B2 p.outs.length m2] [(0, vPg p A n Bo m), (1, .slice A2 p.code.length n2), (2, .slice B2 p.outs.length m2)] Try.func11 Try.ntmps11 rfl rfl rfl ?_
  intro w0
  refine H.seq ?_
  refine H.region ?_
  refine HO.box rfl rfl (ltn rfl) ?_
  intro b3
  refine HO.v (V.assign rfl) (ltn rfl) ?_
  refine HO.nil ?_
  refine HQ.next ?_
  refine H.seq ?_
  refine H.seq ?_
  refine H.region ?_
  refine HO.v (V.fieldAddr (fs := #[]) fa29_2 rfl) (ltn rfl) ?_
  refine HO.v (V.load sc26 rfl (by exact .mk .here rfl)) (ltn rfl) ?_
  refine HO.v (V.len Try.underlying26 rfl) (ltn rfl) ?_
  refine HO.v (V.move rfl) (ltn rfl) ?_
  refine HO.v (V.len Try.underlying26 rfl) (ltn rfl) ?_
  refine HO.v (V.neqI rfl rfl) (ltn rfl) ?_
  refine HO.v (V.move rfl) (ltn rfl) ?_
  refine HO.setF (t := 15) rfl (by simp) ?_
  refine HO.gdo rfl rfl rfl rfl ?_
  refine HO.v (V.fieldAddr (fs := #[]) fa29_3 rfl) (ltn rfl) ?_
  refine HO.gdo rfl rfl rfl rfl ?_
  refine HO.v (V.load sc27 rfl (by exact .mk .here rfl)) (ltn rfl) ?_
  refine HO.gdo rfl rfl rfl rfl ?_
  refine HO.v (V.len Try.underlying27 rfl) (ltn rfl) ?_
  refine HO.gdo rfl rfl rfl rfl ?_
  refine HO.v (V.move rfl) (ltn rfl) ?_
  refine HO.gdo rfl rfl rfl rfl ?_
  refine HO.v (V.len Try.underlying27 rfl) (ltn rfl) ?_
  refine HO.gdo rfl rfl rfl rfl ?_
  refine HO.v (V.neqI rfl rfl) (ltn rfl) ?_
  refine HO.v (V.pickF rfl rfl) (ltn rfl) ?_
  refine HO.nil ?_
  refine HQ.keep (.cons (t := 1) rfl (.cons (t := 2) rfl (.cons (t := 3) rfl (.cons (t := 6) rfl (.cons (t := 22) rfl (.nil)))))) ?_
  refine HQ.next ?_
  refine H.condF rfl (by simp) ?_
  refine H.skip ?_
  refine HQ.next ?_
  refine H.seq ?_
  refine H.seq ?_
  refine H.region ?_
  refine HO.v (V.move rfl) (ltn rfl) ?_
  refine HO.v (V.len Try.underlying26 rfl) (ltn rfl) ?_
  refine HO.v (V.move rfl) (ltn rfl) ?_
  refine HO.nil ?_
  refine HQ.keep (.cons (t := 1) rfl (.cons (t := 2) rfl (.cons (t := 3) rfl (.cons (t := 6) rfl (.cons (t := 24) rfl (.cons (t := 25) rfl (.nil))))))) ?_
  refine HQ.next ?_
  refine H.block ?_
  refine H.loop (σ := Nat) (fun s => p.code.length - s) (fun s => [(1, .slice A2 p.code.length n2), (2, .slice B2 p.outs.length m2), (3, .pointer (some ⟨b3, 0, none⟩)), (24, .int .i64 ((p.code.length : Nat) : Int)), (25, .int .i64 ((s : Nat) : Int))]) (fun s => [cellsCh b3 29 [.int .i64 p.ins, .int .i64 p.regs, .slice A p.code.length n, .slice Bo p.outs.length m]]) (fun s => s ≤ p.code.length) (0) ?_ ?_ ?_
  · exact Nat.zero_le _
  · skip
    exact HQ.fits (.cons rfl (.cons rfl (.cons rfl (.cons rfl (.cons rfl (.nil)))))) (by exact Rems.cons (by exact .here) (Rems.nil))
  intro k hk
  try dsimp only at hk ⊢
  refine H.seq ?_
  refine H.region ?_
  refine HO.v (V.lss rfl rfl) (ltn rfl) ?_
  refine HO.nil ?_
  refine HQ.next ?_
  refine H.seq ?_
  refine H.condB rfl (fun h26 => ?_) (fun h26 => ?_)
  · skip
    try simp only [decide_eq_true_eq, decide_eq_false_iff_not, Bool.not_eq_true', Bool.not_eq_false'] at h26
    obtain ⟨i, hi⟩ : ∃ i, p.code[k]? = some i := ⟨_, List.getElem?_eq_getElem (by omega)⟩
    refine H.skip ?_
    refine HQ.next ?_
    refine H.seq ?_
    refine H.block ?_
    refine H.seq ?_
    refine H.region ?_
    refine HO.v (V.move rfl) (ltn rfl) ?_
    refine HO.v (V.assign rfl) (ltn rfl) ?_
    refine HO.nil ?_
    refine HQ.next ?_
    refine H.seq ?_
    refine H.drawsP [cellsCh b3 _ _] [] [[], [0], [], [1, 2], [3], [], [], [5, 6], [7], [4, 8]] (.take 0 (.take 1 (.take 2 (.take 3 (.take 4 (.take 5 (.take 6 (.take 7 (.take 8 (.take 9 .done)))))))))) (.cons (by exact (.head _)) (.nil)) (by kernel_rfl) (by kernel_rfl) (by kernel_rfl) (by kernel_rfl) (by kernel_rfl) ?_
    refine HP.take (i := 0) rfl rfl (ltn rfl) (gives_of want_none (V.fieldAddr (fs := #[]) fa29_2 rfl)) (.cons (by exact (.head _)) (Sub.nil)) ?_
    refine HP.take (i := 1) rfl rfl (ltn rfl) (gives_of want_none (V.load sc26 rfl (by exact .mk .here rfl))) (.cons (by exact (.head _)) (Sub.nil)) ?_
    refine HP.take (i := 2) rfl rfl (ltn rfl) (gives_of want_none (V.move rfl)) (.cons (by exact (.head _)) (Sub.nil)) ?_
    refine HP.take (i := 3) rfl rfl (ltn rfl) (gives_of want_none (V.indexAddr (N := encIn) (ys := _) Try.underlying26 sz50 rfl rfl (by omega) (by omega) (by exact Has.ro (.head _)))) (.cons (by exact (.head _)) (Sub.nil)) ?_
    refine HP.take (i := 4) rfl rfl (ltn rfl) (gives_of want_none (V.loadEA (N := encIn) ag50 rfl (by exact .mk (Has.ro (.head _)) (hi) rfl))) (.cons (by exact (.head _)) (Sub.nil)) ?_
    refine HP.take (i := 5) rfl rfl (ltn rfl) (gives_of want_none (V.move rfl)) (.cons (by exact (.head _)) (Sub.nil)) ?_
    refine HP.take (i := 6) rfl rfl (ltn rfl) (gives_of want_none (V.move rfl)) (.cons (by exact (.head _)) (Sub.nil)) ?_
    refine HP.take (i := 7) rfl rfl (ltn rfl) (gives_of want_none (V.indexAddr (N := encIn) (ys := _) Try.underlying26 sz50 rfl rfl (by omega) (by omega) (by exact Has.ro (.tail _ (.tail _ (.head _)))))) (.cons (by exact (.head _)) (Sub.nil)) ?_
    refine HP.take (i := 8) rfl rfl (ltn rfl) (gives_of want_none (V.loadEA (N := encIn) ag50 rfl (by exact .mk (Has.ro (.tail _ (.tail _ (.head _)))) (hi) rfl))) (.cons (by exact (.head _)) (Sub.nil)) ?_
    refine HP.take (i := 9) rfl rfl (ltn rfl) (gives_of want_none (V.neqS [_, _, _, _, _] [_, _, _, _, _] if50 rfl rfl rfl rfl)) (.cons (by exact (.head _)) (Sub.nil)) ?_
    refine HP.done ?_
    refine HQ.next ?_
    refine H.condF rfl (by simp) ?_
    refine H.skip ?_
    refine HQ.block_normal ?_
    refine HQ.next ?_
    refine H.region ?_
    refine HO.v (V.add rfl rfl (by omega)) (ltn rfl) ?_
    refine HO.v (V.move rfl) (ltn rfl) ?_
    refine HO.nil ?_
    refine HQ.round (k + 1) ?_ ?_ ?_
    · (try dsimp only); omega
    · omega
    · skip
      exact HQ.fits (.cons rfl (.cons rfl (.cons rfl (.cons rfl (.cons rfl (.nil)))))) (by exact Rems.cons (by exact .here) (Rems.nil))
  · skip
    try simp only [decide_eq_true_eq, decide_eq_false_iff_not, Bool.not_eq_true', Bool.not_eq_false'] at h26
    refine H.exit ?_
    refine HQ.then_exit ?_
    refine HQ.then_exit ?_
    refine HQ.exit_hit ?_
    refine HQ.next ?_
    refine H.seq ?_
    refine H.seq ?_
    refine H.region ?_
    refine HO.v (V.move rfl) (ltn rfl) ?_
    refine HO.v (V.len Try.underlying27 rfl) (ltn rfl) ?_
    refine HO.v (V.move rfl) (ltn rfl) ?_
    refine HO.nil ?_
    refine HQ.keep (.cons (t := 2) rfl (.cons (t := 3) rfl (.cons (t := 40) rfl (.cons (t := 41) rfl (.nil))))) ?_
    refine HQ.next ?_
    refine H.block ?_
    refine H.loop (σ := Nat) (fun s => p.outs.length - s) (fun s => [(2, .slice B2 p.outs.length m2), (3, .pointer (some ⟨b3, 0, none⟩)), (40, .int .i64 ((p.outs.length : Nat) : Int)), (41, .int .i64 ((s : Nat) : Int))]) (fun s => [cellsCh b3 29 [.int .i64 p.ins, .int .i64 p.regs, .slice A p.code.length n, .slice Bo p.outs.length m]]) (fun s => s ≤ p.outs.length) (0) ?_ ?_ ?_
    · exact Nat.zero_le _
    · skip
      exact HQ.fits (.cons rfl (.cons rfl (.cons rfl (.cons rfl (.nil))))) (by exact Rems.cons (by exact .here) (Rems.nil))
    intro k hk
    try dsimp only at hk ⊢
    refine H.seq ?_
    refine H.region ?_
    refine HO.v (V.lss rfl rfl) (ltn rfl) ?_
    refine HO.nil ?_
    refine HQ.next ?_
    refine H.seq ?_
    refine H.condB rfl (fun h42 => ?_) (fun h42 => ?_)
    · skip
      try simp only [decide_eq_true_eq, decide_eq_false_iff_not, Bool.not_eq_true', Bool.not_eq_false'] at h42
      obtain ⟨r, hr⟩ : ∃ r, p.outs[k]? = some r := ⟨_, List.getElem?_eq_getElem (by omega)⟩
      refine H.skip ?_
      refine HQ.next ?_
      refine H.seq ?_
      refine H.block ?_
      refine H.seq ?_
      refine H.region ?_
      refine HO.v (V.move rfl) (ltn rfl) ?_
      refine HO.v (V.assign rfl) (ltn rfl) ?_
      refine HO.nil ?_
      refine HQ.next ?_
      refine H.seq ?_
      refine H.drawsP [cellsCh b3 _ _] [] [[], [0], [], [1, 2], [3], [], [], [5, 6], [7], [4, 8]] (.take 0 (.take 1 (.take 2 (.take 3 (.take 4 (.take 5 (.take 6 (.take 7 (.take 8 (.take 9 .done)))))))))) (.cons (by exact (.head _)) (.nil)) (by kernel_rfl) (by kernel_rfl) (by kernel_rfl) (by kernel_rfl) (by kernel_rfl) ?_
      refine HP.take (i := 0) rfl rfl (ltn rfl) (gives_of want_none (V.fieldAddr (fs := #[]) fa29_3 rfl)) (.cons (by exact (.head _)) (Sub.nil)) ?_
      refine HP.take (i := 1) rfl rfl (ltn rfl) (gives_of want_none (V.load sc27 rfl (by exact .mk .here rfl))) (.cons (by exact (.head _)) (Sub.nil)) ?_
      refine HP.take (i := 2) rfl rfl (ltn rfl) (gives_of want_none (V.move rfl)) (.cons (by exact (.head _)) (Sub.nil)) ?_
      refine HP.take (i := 3) rfl rfl (ltn rfl) (gives_of want_none (V.indexAddr (N := (encI .i64)) (ys := _) Try.underlying27 sz3 rfl rfl (by omega) (by omega) (by exact Has.ro (.tail _ (.head _))))) (.cons (by exact (.head _)) (Sub.nil)) ?_
      refine HP.take (i := 4) rfl rfl (ltn rfl) (gives_of want_none (V.loadE (N := (encI .i64)) sc3 rfl (by exact .mk (Has.ro (.tail _ (.head _))) (hr) rfl))) (.cons (by exact (.head _)) (Sub.nil)) ?_
      refine HP.take (i := 5) rfl rfl (ltn rfl) (gives_of want_none (V.move rfl)) (.cons (by exact (.head _)) (Sub.nil)) ?_
      refine HP.take (i := 6) rfl rfl (ltn rfl) (gives_of want_none (V.move rfl)) (.cons (by exact (.head _)) (Sub.nil)) ?_
      refine HP.take (i := 7) rfl rfl (ltn rfl) (gives_of want_none (V.indexAddr (N := (encI .i64)) (ys := _) Try.underlying27 sz3 rfl rfl (by omega) (by omega) (by exact Has.ro (.tail _ (.tail _ (.tail _ (.head _))))))) (.cons (by exact (.head _)) (Sub.nil)) ?_
      refine HP.take (i := 8) rfl rfl (ltn rfl) (gives_of want_none (V.loadE (N := (encI .i64)) sc3 rfl (by exact .mk (Has.ro (.tail _ (.tail _ (.tail _ (.head _))))) (hr) rfl))) (.cons (by exact (.head _)) (Sub.nil)) ?_
      refine HP.take (i := 9) rfl rfl (ltn rfl) (gives_of want_none (V.neqI rfl rfl)) (.cons (by exact (.head _)) (Sub.nil)) ?_
      refine HP.done ?_
      refine HQ.next ?_
      refine H.condF rfl (by simp) ?_
      refine H.skip ?_
      refine HQ.block_normal ?_
      refine HQ.next ?_
      refine H.region ?_
      refine HO.v (V.add rfl rfl (by omega)) (ltn rfl) ?_
      refine HO.v (V.move rfl) (ltn rfl) ?_
      refine HO.nil ?_
      refine HQ.round (k + 1) ?_ ?_ ?_
      · (try dsimp only); omega
      · omega
      · skip
        exact HQ.fits (.cons rfl (.cons rfl (.cons rfl (.cons rfl (.nil))))) (by exact Rems.cons (by exact .here) (Rems.nil))
    · skip
      try simp only [decide_eq_true_eq, decide_eq_false_iff_not, Bool.not_eq_true', Bool.not_eq_false'] at h42
      refine H.exit ?_
      refine HQ.then_exit ?_
      refine HQ.then_exit ?_
      refine HQ.exit_hit ?_
      refine HQ.next ?_
      refine H.seq ?_
      refine H.region ?_
      refine HO.v (V.assign rfl) (ltn rfl) ?_
      refine HO.nil ?_
      refine HQ.next ?_
      refine H.ret ?_
      refine HQ.end_ rfl rfl rfl rfl (.inl rfl) _ (fun a w s => res1 Try.results11 s rfl) ?_
      refine ⟨[], _, (by exact Rems.nil), ?_⟩
      exact ⟨rfl, rfl⟩
set_option maxHeartbeats 4000000 in
theorem held14_w (p : Prg) (A : Option Addr) (n : Nat) (Bo : Option Addr) (m : Nat) (hv : Right p) :
    Tri Try.prog 4 #[vPg p A n Bo m] [roE encIn A p.code, roE (encI .i64) Bo p.outs] [] (fun v L' => v = .tuple #[.int .i64 ((passP p).code.length : Nat), .bool true] ∧ L' = []) := by
  have hc := hv.code
  have ho := hv.outs2
  have hq := hv.pass
  have hqc := hq.code
  have hqo := hq.outs2
  obtain ⟨hl1, hl2, hl3⟩ := run_vals p p.code
  have hpp := passP_passP hv
  have hxp := pairs_length (run p p.code).firsts
  refine Tri.of' 152 [vPg p A n Bo m] [(0, vPg p A n Bo m)] Try.func4 Try.ntmps4 rfl rfl rfl ?_
  intro w0
  refine H.seq ?_
  refine H.region ?_
  refine HO.box rfl rfl (ltn rfl) ?_
  intro b1
  refine HO.alloc ze3 rfl (ltn rfl) ?_
  intro b2
  refine HO.alloc ze4 rfl (ltn rfl) ?_
  intro b3
  refine HO.nil ?_
  refine HQ.next ?_
  refine H.seq ?_
  refine H.region ?_
  refine HO.v (V.loadA ag29 rfl (by exact .mk (.there (.there .here)) (by repeat constructor))) (ltn rfl) ?_
  refine HO.call ca7 (.cons rfl (.nil)) (found14_w p A n Bo m hv) (by exact Rems.nil) (by (refine Reads.ro (.head _) ?_); (refine Reads.ro (.tail _ (.head _)) ?_); exact Reads.nil) (ltn rfl) ?_
  rintro v21 L21 ⟨A1, a1, A2, a2, A3, a3, A4, a4, rfl, rfl⟩
  dsimp only [List.nil_append, List.cons_append]
  refine HO.v (V.move rfl) (ltn rfl) ?_
  refine HO.v (V.extract rfl rfl) (ltn rfl) ?_
  refine HO.v (V.extract rfl rfl) (ltn rfl) ?_
  refine HO.v (V.extract rfl rfl) (ltn rfl) ?_
  refine HO.v (V.extract rfl rfl) (ltn rfl) ?_
  refine HO.v (V.assign rfl) (ltn rfl) ?_
  refine HO.v (V.assign rfl) (ltn rfl) ?_
  refine HO.v (V.assign rfl) (ltn rfl) ?_
  refine HO.v (V.assign rfl) (ltn rfl) ?_
  refine HO.nil ?_
  refine HQ.keep (.cons (t := 1) rfl (.cons (t := 2) rfl (.cons (t := 3) rfl (.cons (t := 4) rfl (.cons (t := 5) rfl (.cons (t := 6) rfl (.cons (t := 7) rfl (.nil)))))))) ?_
  refine HQ.next ?_
  refine H.seq ?_
  refine H.region ?_
  refine HO.v (V.loadA ag29 rfl (by exact .mk (.there (.there (.there (.there (.there (.there .here)))))) (by repeat constructor))) (ltn rfl) ?_
  refine HO.call ca9 (.cons rfl (.nil)) (copy14_w p _ _ _ _ (by omega) (by omega)) (by exact Rems.nil) (by (refine Reads.ro (.head _) ?_); (refine Reads.ro (.tail _ (.head _)) ?_); exact Reads.nil) (ltn rfl) ?_
  rintro v28 L28 ⟨C28, k28, D28, j28, rfl, rfl⟩
  dsimp only [List.nil_append, List.cons_append]
  refine HO.call ca8 (.cons rfl (.nil)) (values_w p _ _ _ _ hv) (by exact Rems.nil) (by (refine Reads.row (.head _) ?_); (refine Reads.row (.tail _ (.head _)) ?_); exact Reads.nil) (ltn rfl) ?_
  rintro v29 L29 ⟨C29, k29, rfl, rfl⟩
  dsimp only [List.nil_append, List.cons_append]
  refine HO.v (V.move rfl) (ltn rfl) ?_
  refine HO.v (V.extract rfl rfl) (ltn rfl) ?_
  refine HO.v (V.extract rfl rfl) (ltn rfl) ?_
  refine HO.v (V.assign rfl) (ltn rfl) ?_
  refine HO.v (V.assign rfl) (ltn rfl) ?_
  refine HO.nil ?_
  refine HQ.keep (.cons (t := 1) rfl (.cons (t := 2) rfl (.cons (t := 3) rfl (.cons (t := 4) rfl (.cons (t := 5) rfl (.cons (t := 6) rfl (.cons (t := 7) rfl (.cons (t := 8) rfl (.cons (t := 9) rfl (.nil)))))))))) ?_
  refine HQ.next ?_
  refine H.seq ?_
  refine H.region ?_
  refine HO.v (V.loadA ag29 rfl (by exact .mk (.there (.there (.there (.there (.there (.there (.there (.there (.there .here))))))))) (by repeat constructor))) (ltn rfl) ?_
  refine HO.call ca9 (.cons rfl (.nil)) (copy14_w p _ _ _ _ (by omega) (by omega)) (by exact Rems.nil) (by (refine Reads.ro (.head _) ?_); (refine Reads.ro (.tail _ (.head _)) ?_); exact Reads.nil) (ltn rfl) ?_
  rintro v34 L34 ⟨C34, k34, D34, j34, rfl, rfl⟩
  dsimp only [List.nil_append, List.cons_append]
  refine HO.call ca10 (.cons rfl (.nil)) (sharePass_w p _ _ _ _ hv) (by exact Rems.nil) (by (refine Reads.row (.head _) ?_); (refine Reads.row (.tail _ (.head _)) ?_); exact Reads.nil) (ltn rfl) ?_
  rintro v35 L35 ⟨C35, k35, D35, j35, rfl, rfl⟩
  dsimp only [List.nil_append, List.cons_append]
  refine HO.v (V.move rfl) (ltn rfl) ?_
  refine HO.v (V.extract rfl rfl) (ltn rfl) ?_
  refine HO.v (V.extract rfl rfl) (ltn rfl) ?_
  refine HO.alloc ze29 rfl (ltn rfl) ?_
  intro b10
  refine HO.store sz29 rfl rfl rfl rfl rfl (by exact .mk .here (by repeat constructor)) ?_
  refine HO.v (V.assign rfl) (ltn rfl) ?_
  refine HO.nil ?_
  refine HQ.keep (.cons (t := 1) rfl (.cons (t := 2) rfl (.cons (t := 3) rfl (.cons (t := 4) rfl (.cons (t := 5) rfl (.cons (t := 6) rfl (.cons (t := 7) rfl (.cons (t := 8) rfl (.cons (t := 9) rfl (.cons (t := 10) rfl (.cons (t := 11) rfl (.nil)))))))))))) ?_
  refine HQ.next ?_
  refine H.seq ?_
  refine H.seq ?_
  refine H.region ?_
  refine HO.v (V.move rfl) (ltn rfl) ?_
  refine HO.v (V.neqI rfl rfl) (ltn rfl) ?_
  refine HO.v (V.move rfl) (ltn rfl) ?_
  refine HO.setF (t := 40) rfl (by rfl) ?_
  refine HO.gdo rfl rfl rfl rfl ?_
  refine HO.v (V.move rfl) (ltn rfl) ?_
  refine HO.gdo rfl rfl rfl rfl ?_
  refine HO.v (V.neqI rfl rfl) (ltn rfl) ?_
  refine HO.v (V.pickF rfl rfl) (ltn rfl) ?_
  refine HO.v (V.move rfl) (ltn rfl) ?_
  refine HO.setF (t := 44) rfl (by rfl) ?_
  refine HO.gdo rfl rfl rfl rfl ?_
  refine HO.v (V.move rfl) (ltn rfl) ?_
  refine HO.gdo rfl rfl rfl rfl ?_
  refine HO.v (V.len Try.underlying27 rfl) (ltn rfl) ?_
  refine HO.gdo rfl rfl rfl rfl ?_
  refine HO.v (V.move rfl) (ltn rfl) ?_
  refine HO.gdo rfl rfl rfl rfl ?_
  refine HO.v (V.len Try.underlying27 rfl) (ltn rfl) ?_
  refine HO.gdo rfl rfl rfl rfl ?_
  refine HO.v (V.neqI rfl rfl) (ltn rfl) ?_
  refine HO.v (V.pickF rfl rfl) (ltn rfl) ?_
  refine HO.v (V.move rfl) (ltn rfl) ?_
  refine HO.setF (t := 51) rfl (by simp) ?_
  refine HO.gdo rfl rfl rfl rfl ?_
  refine HO.v (V.fieldAddr (fs := #[]) fa29_0 rfl) (ltn rfl) ?_
  refine HO.gdo rfl rfl rfl rfl ?_
  refine HO.v (V.load sc3 rfl (by exact .mk .here rfl)) (ltn rfl) ?_
  refine HO.gdo rfl rfl rfl rfl ?_
  refine HO.v (V.fieldAddr (fs := #[]) fa29_0 rfl) (ltn rfl) ?_
  refine HO.gdo rfl rfl rfl rfl ?_
  refine HO.v (V.load sc3 rfl (by exact .mk (.there (.there (.there (.there (.there (.there (.there (.there (.there (.there (.there (.there (.there (.there .here)))))))))))))) rfl)) (ltn rfl) ?_
  refine HO.gdo rfl rfl rfl rfl ?_
  refine HO.v (V.neqI rfl rfl) (ltn rfl) ?_
  refine HO.v (V.pickF rfl rfl) (ltn rfl) ?_
  refine HO.v (V.move rfl) (ltn rfl) ?_
  refine HO.setF (t := 58) rfl (by simp [passP]) ?_
  refine HO.gdo rfl rfl rfl rfl ?_
  refine HO.v (V.fieldAddr (fs := #[]) fa29_1 rfl) (ltn rfl) ?_
  refine HO.gdo rfl rfl rfl rfl ?_
  refine HO.v (V.load sc3 rfl (by exact .mk .here rfl)) (ltn rfl) ?_
  refine HO.gdo rfl rfl rfl rfl ?_
  refine HO.v (V.fieldAddr (fs := #[]) fa29_1 rfl) (ltn rfl) ?_
  refine HO.gdo rfl rfl rfl rfl ?_
  refine HO.v (V.load sc3 rfl (by exact .mk (.there (.there (.there (.there (.there (.there (.there (.there (.there (.there (.there (.there (.there (.there .here)))))))))))))) rfl)) (ltn rfl) ?_
  refine HO.gdo rfl rfl rfl rfl ?_
  refine HO.v (V.neqI rfl rfl) (ltn rfl) ?_
  refine HO.v (V.pickF rfl rfl) (ltn rfl) ?_
  refine HO.v (V.move rfl) (ltn rfl) ?_
  refine HO.setF (t := 65) rfl (by simp [passP]) ?_
  refine HO.gdo rfl rfl rfl rfl ?_
  refine HO.v (V.loadA ag29 rfl (by exact .mk .here (by repeat constructor))) (ltn rfl) ?_
  refine HO.gdo rfl rfl rfl rfl ?_
  refine HO.v (V.move rfl) (ltn rfl) ?_
  refine HO.gdo rfl rfl rfl rfl ?_
  refine HO.v (V.move rfl) (ltn rfl) ?_
  refine HO.gdo rfl rfl rfl rfl ?_
  refine HO.call ca11 (.cons rfl (.cons rfl (.cons rfl (.nil)))) (same14_w (passP p) _ _ _ _ _ _ _ _ hqc hqo) (by exact Rems.nil) (by (refine Reads.row (.tail _ (.head _)) ?_); (refine Reads.row (.tail _ (.tail _ (.head _))) ?_); (refine Reads.row (.tail _ (.tail _ (.tail _ (.tail _ (.tail _ (.tail _ (.tail _ (.tail _ (.tail _ (.tail _ (.head _))))))))))) ?_); (refine Reads.row (.tail _ (.tail _ (.tail _ (.tail _ (.tail _ (.tail _ (.tail _ (.tail _ (.tail _ (.tail _ (.tail _ (.head _)))))))))))) ?_); exact Reads.nil) (ltn rfl) ?_
  rintro v69 L69 ⟨rfl, rfl⟩
  dsimp only [List.nil_append, List.cons_append]
  refine HO.gdo rfl rfl rfl rfl ?_
  refine HO.v (V.not rfl) (ltn rfl) ?_
  refine HO.v (V.pickF rfl rfl) (ltn rfl) ?_
  refine HO.nil ?_
  refine HQ.keep (.cons (t := 1) rfl (.cons (t := 2) rfl (.cons (t := 3) rfl (.cons (t := 4) rfl (.cons (t := 5) rfl (.cons (t := 6) rfl (.cons (t := 7) rfl (.cons (t := 8) rfl (.cons (t := 10) rfl (.cons (t := 71) rfl (.nil))))))))))) ?_
  refine HQ.next ?_
  refine H.condF rfl (by rfl) ?_
  refine H.skip ?_
  refine HQ.keep (.cons (t := 1) rfl (.cons (t := 2) rfl (.cons (t := 3) rfl (.cons (t := 4) rfl (.cons (t := 5) rfl (.cons (t := 6) rfl (.cons (t := 7) rfl (.cons (t := 8) rfl (.cons (t := 10) rfl (.nil)))))))))) ?_
  refine HQ.next ?_
  refine H.seq ?_
  refine H.region ?_
  refine HO.alloc ze42 rfl (ltn rfl) ?_
  intro b12
  refine HO.nil ?_
  refine HQ.next ?_
  refine H.seq ?_
  refine H.seq ?_
  refine H.region ?_
  refine HO.v (V.move rfl) (ltn rfl) ?_
  refine HO.v (V.len Try.underlying27 rfl) (ltn rfl) ?_
  refine HO.v (V.move rfl) (ltn rfl) ?_
  refine HO.nil ?_
  refine HQ.keep (.cons (t := 1) rfl (.cons (t := 2) rfl (.cons (t := 3) rfl (.cons (t := 4) rfl (.cons (t := 5) rfl (.cons (t := 6) rfl (.cons (t := 7) rfl (.cons (t := 8) rfl (.cons (t := 10) rfl (.cons (t := 12) rfl (.cons (t := 73) rfl (.cons (t := 74) rfl (.nil))))))))))))) ?_
  refine HQ.next ?_
  refine H.block ?_
  refine H.loop (σ := Nat × Option Addr × Nat) (fun s => (run p p.code).vals.length - s.1) (fun s => [(1, .pointer (some ⟨b1, 0, none⟩)), (2, .pointer (some ⟨b2, 0, none⟩)), (3, .pointer (some ⟨b3, 0, none⟩)), (4, .slice A1 (run p p.code).vals.length a1), (5, .slice A2 (run p p.code).firsts.length a2), (6, .slice A3 (passP p).code.length a3), (7, .slice A4 (passP p).outs.length a4), (8, .slice C29 (run p p.code).vals.length k29), (10, .pointer (some ⟨b10, 0, none⟩)), (12, .pointer (some ⟨b12, 0, none⟩)), (73, .int .i64 (((run p p.code).vals.length : Nat) : Int)), (74, .int .i64 ((s.1 : Nat) : Int))]) (fun s => [cellsCh b1 29 [.int .i64 p.ins, .int .i64 p.regs, .slice A p.code.length n, .slice Bo p.outs.length m], cellsCh b10 29 [.int .i64 (passP p).ins, .int .i64 (passP p).regs, .slice C35 (passP p).code.length k35, .slice D35 (passP p).outs.length j35], cellsCh b2 3 [.int .i64 0], cellsCh b3 4 [.bool false], rowE (encI .i64) 3 A1 a1 (run p p.code).vals, rowE (encI .i64) 3 A2 a2 (run p p.code).firsts, rowE encIn 50 A3 a3 (passP p).code, rowE (encI .i64) 3 A4 a4 (passP p).outs, rowE (encI .i64) 3 C29 k29 (run p p.code).vals, rowE encIn 50 C35 k35 (passP p).code, rowE (encI .i64) 3 D35 j35 (passP p).outs, cellsCh b12 42 [.slice s.2.1 (pairs ((run p p.code).firsts.take s.1)).length s.2.2], rowE encP2 43 s.2.1 s.2.2 (pairs ((run p p.code).firsts.take s.1))]) (fun s => s.1 ≤ (run p p.code).vals.length) ((0, none, 0)) ?_ ?_ ?_
  · exact Nat.zero_le _
  · skip
    refine HQ.free (rowE encP2 43 none 0 ([] : List (Int × Int))) rfl (fun w => OwnRow.nil w 43 2) ?_
    exact HQ.fits (.cons rfl (.cons rfl (.cons rfl (.cons rfl (.cons rfl (.cons rfl (.cons rfl (.cons rfl (.cons rfl (.cons rfl (.cons rfl (.cons rfl (.nil))))))))))))) (by exact Rems.cons (by exact (.there (.there (.there (.there (.there (.there (.there (.there (.there (.there (.there (.there (.there (.there (.there (.there .here))))))))))))))))) (Rems.cons (by exact (.there (.there .here))) (Rems.cons (by exact (.there (.there (.there (.there (.there (.there (.there (.there (.there (.there (.there (.there (.there (.there .here))))))))))))))) (Rems.cons (by exact (.there (.there (.there (.there (.there (.there (.there (.there (.there (.there (.there (.there (.there .here)))))))))))))) (Rems.cons (by exact (.there (.there (.there (.there (.there (.there (.there (.there (.there .here)))))))))) (Rems.cons (by exact (.there (.there (.there (.there (.there (.there (.there (.there (.there .here)))))))))) (Rems.cons (by exact (.there (.there (.there (.there (.there (.there (.there (.there (.there .here)))))))))) (Rems.cons (by exact (.there (.there (.there (.there (.there (.there (.there (.there (.there .here)))))))))) (Rems.cons (by exact (.there (.there (.there (.there (.there (.there .here))))))) (Rems.cons (by exact (.there (.there .here))) (Rems.cons (by exact (.there (.there .here))) (Rems.cons (by exact (.there .here)) (Rems.cons (by exact .here) (Rems.nil))))))))))))))
  rintro ⟨k, Ak, ck⟩ hk
  dsimp only at hk ⊢
  have hpl := pairs_length ((run p p.code).firsts.take k)
  have htl : ((run p p.code).firsts.take k).length ≤ k := by (simp; omega)
  refine H.seq ?_
  refine H.region ?_
  refine HO.v (V.lss rfl rfl) (ltn rfl) ?_
  refine HO.nil ?_
  refine HQ.next ?_
  refine H.seq ?_
  refine H.condB rfl (fun h75 => ?_) (fun h75 => ?_)
  · skip
    try simp only [decide_eq_true_eq, decide_eq_false_iff_not, Bool.not_eq_true', Bool.not_eq_false'] at h75
    obtain ⟨u, hu⟩ : ∃ u, (run p p.code).vals[k]? = some u := ⟨_, List.getElem?_eq_getElem (by omega)⟩
    obtain ⟨f, hf⟩ : ∃ f, (run p p.code).firsts[k]? = some f := ⟨_, List.getElem?_eq_getElem (by omega)⟩
    refine H.skip ?_
    refine HQ.next ?_
    refine H.seq ?_
    refine H.block ?_
    refine H.seq ?_
    refine H.region ?_
    refine HO.v (V.move rfl) (ltn rfl) ?_
    refine HO.v (V.assign rfl) (ltn rfl) ?_
    refine HO.nil ?_
    refine HQ.next ?_
    refine H.seq ?_
    refine H.seq ?_
    refine H.drawsP [rowE (encI .i64) 3 C29 _ _, rowE (encI .i64) 3 A1 _ _] [] [[], [], [0, 1], [2], [], [], [4, 5], [6], [3, 7]] (.take 0 (.take 1 (.take 2 (.take 3 (.take 4 (.take 5 (.take 6 (.take 7 (.take 8 .done))))))))) (.cons (by exact (.tail _ (.tail _ (.tail _ (.tail _ (.tail _ (.tail _ (.tail _ (.tail _ (.head _)))))))))) (.cons (by exact (.tail _ (.tail _ (.tail _ (.tail _ (.head _)))))) (.nil))) (by kernel_rfl) (by kernel_rfl) (by kernel_rfl) (by kernel_rfl) (by kernel_rfl) ?_
    refine HP.take (i := 0) rfl rfl (ltn rfl) (gives_of want_none (V.move rfl)) (.cons (by exact (.tail _ (.tail _ (.tail _ (.tail _ (.tail _ (.tail _ (.tail _ (.tail _ (.head _)))))))))) (.cons (by exact (.tail _ (.tail _ (.tail _ (.tail _ (.head _)))))) (Sub.nil))) ?_
    refine HP.take (i := 1) rfl rfl (ltn rfl) (gives_of want_none (V.move rfl)) (.cons (by exact (.tail _ (.tail _ (.tail _ (.tail _ (.tail _ (.tail _ (.tail _ (.tail _ (.head _)))))))))) (.cons (by exact (.tail _ (.tail _ (.tail _ (.tail _ (.head _)))))) (Sub.nil))) ?_
    refine HP.take (i := 2) rfl rfl (ltn rfl) (gives_of want_none (V.indexAddr (N := (encI .i64)) (ys := _) Try.underlying27 sz3 rfl rfl (by omega) (by omega) (by exact Has.own .here))) (.cons (by exact (.tail _ (.tail _ (.tail _ (.tail _ (.tail _ (.tail _ (.tail _ (.tail _ (.head _)))))))))) (.cons (by exact (.tail _ (.tail _ (.tail _ (.tail _ (.head _)))))) (Sub.nil))) ?_
    refine HP.take (i := 3) rfl rfl (ltn rfl) (gives_of want_none (V.loadE (N := (encI .i64)) sc3 rfl (by exact .mk (Has.own .here) (hu) rfl))) (.cons (by exact (.tail _ (.tail _ (.tail _ (.tail _ (.tail _ (.tail _ (.tail _ (.tail _ (.head _)))))))))) (.cons (by exact (.tail _ (.tail _ (.tail _ (.tail _ (.head _)))))) (Sub.nil))) ?_
    refine HP.take (i := 4) rfl rfl (ltn rfl) (gives_of want_none (V.move rfl)) (.cons (by exact (.tail _ (.tail _ (.tail _ (.tail _ (.tail _ (.tail _ (.tail _ (.tail _ (.head _)))))))))) (.cons (by exact (.tail _ (.tail _ (.tail _ (.tail _ (.head _)))))) (Sub.nil))) ?_
    refine HP.take (i := 5) rfl rfl (ltn rfl) (gives_of want_none (V.move rfl)) (.cons (by exact (.tail _ (.tail _ (.tail _ (.tail _ (.tail _ (.tail _ (.tail _ (.tail _ (.head _)))))))))) (.cons (by exact (.tail _ (.tail _ (.tail _ (.tail _ (.head _)))))) (Sub.nil))) ?_
    refine HP.take (i := 6) rfl rfl (ltn rfl) (gives_of want_none (V.indexAddr (N := (encI .i64)) (ys := _) Try.underlying27 sz3 rfl rfl (by omega) (by omega) (by exact Has.own (.there .here)))) (.cons (by exact (.tail _ (.tail _ (.tail _ (.tail _ (.tail _ (.tail _ (.tail _ (.tail _ (.head _)))))))))) (.cons (by exact (.tail _ (.tail _ (.tail _ (.tail _ (.head _)))))) (Sub.nil))) ?_
    refine HP.take (i := 7) rfl rfl (ltn rfl) (gives_of want_none (V.loadE (N := (encI .i64)) sc3 rfl (by exact .mk (Has.own (.there .here)) (hu) rfl))) (.cons (by exact (.tail _ (.tail _ (.tail _ (.tail _ (.tail _ (.tail _ (.tail _ (.tail _ (.head _)))))))))) (.cons (by exact (.tail _ (.tail _ (.tail _ (.tail _ (.head _)))))) (Sub.nil))) ?_
    refine HP.take (i := 8) rfl rfl (ltn rfl) (gives_of want_none (V.neqI rfl rfl)) (.cons (by exact (.tail _ (.tail _ (.tail _ (.tail _ (.tail _ (.tail _ (.tail _ (.tail _ (.head _)))))))))) (.cons (by exact (.tail _ (.tail _ (.tail _ (.tail _ (.head _)))))) (Sub.nil))) ?_
    refine HP.done ?_
    refine HQ.next ?_
    refine H.condF rfl (by simp) ?_
    refine H.skip ?_
    refine HQ.next ?_
    refine H.seq ?_
    refine H.region ?_
    refine HO.v (V.move rfl) (ltn rfl) ?_
    refine HO.v (V.move rfl) (ltn rfl) ?_
    refine HO.v (V.indexAddr (N := (encI .i64)) (ys := _) Try.underlying27 sz3 rfl rfl (by omega) (by omega) (by exact Has.own (.there (.there (.there (.there (.there .here))))))) (ltn rfl) ?_
    refine HO.v (V.loadE (N := (encI .i64)) sc3 rfl (by exact .mk (Has.own (.there (.there (.there (.there (.there .here)))))) (hf) rfl)) (ltn rfl) ?_
    refine HO.v (V.geq rfl rfl) (ltn rfl) ?_
    refine HO.v (V.move rfl) (ltn rfl) ?_
    refine HO.part (t := 91) rfl (fun g91 => ?_) (fun g91 => ?_)
    · skip
      try simp only [decide_eq_true_eq, decide_eq_false_iff_not, Bool.not_eq_true', Bool.not_eq_false'] at g91
      refine HO.gdo rfl rfl rfl rfl ?_
      refine HO.v (V.move rfl) (ltn rfl) ?_
      refine HO.gdo rfl rfl rfl rfl ?_
      refine HO.v (V.move rfl) (ltn rfl) ?_
      refine HO.gdo rfl rfl rfl rfl ?_
      refine HO.v (V.indexAddr (N := (encI .i64)) (ys := _) Try.underlying27 sz3 rfl rfl (by omega) (by omega) (by exact Has.own (.there (.there (.there (.there (.there .here))))))) (ltn rfl) ?_
      refine HO.gdo rfl rfl rfl rfl ?_
      refine HO.v (V.loadE (N := (encI .i64)) sc3 rfl (by exact .mk (Has.own (.there (.there (.there (.there (.there .here)))))) (hf) rfl)) (ltn rfl) ?_
      refine HO.gdo rfl rfl rfl rfl ?_
      refine HO.v (V.move rfl) (ltn rfl) ?_
      refine HO.gdo rfl rfl rfl rfl ?_
      refine HO.v (V.lss rfl rfl) (ltn rfl) ?_
      refine HO.v (V.pickT rfl rfl) (ltn rfl) ?_
      refine HO.nil ?_
      refine HQ.next ?_
      refine H.condB rfl (fun h98 => ?_) (fun h98 => ?_)
      · skip
        try simp only [decide_eq_true_eq, decide_eq_false_iff_not, Bool.not_eq_true', Bool.not_eq_false'] at h98
        refine H.drawsP [cellsCh b12 _ _, rowE (encI .i64) 3 A2 _ _] [9] [[], [], [], [], [2, 3], [4], [1, 5], [6], [0, 7], [8, 8, 0, 1, 2, 3, 4, 5, 6, 7, 8]] (.take 0 (.take 1 (.take 2 (.take 3 (.take 4 (.take 5 (.take 6 (.one 7 (.one 8 (.one 9 .done)))))))))) (.cons (by exact (.tail _ (.tail _ (.tail _ (.tail _ (.tail _ (.tail _ (.tail _ (.tail _ (.tail _ (.tail _ (.tail _ (.head _))))))))))))) (.cons (by exact (.tail _ (.tail _ (.tail _ (.tail _ (.tail _ (.head _))))))) (.nil))) (by kernel_rfl) (by kernel_rfl) (by kernel_rfl) (by kernel_rfl) (by kernel_rfl) ?_
        refine HP.take (i := 0) rfl rfl (ltn rfl) (gives_of want_none (V.load sc42 rfl (by exact .mk .here rfl))) (.cons (by exact (.tail _ (.tail _ (.tail _ (.tail _ (.tail _ (.tail _ (.tail _ (.tail _ (.tail _ (.tail _ (.tail _ (.head _))))))))))))) (.cons (by exact (.tail _ (.tail _ (.tail _ (.tail _ (.tail _ (.head _))))))) (Sub.nil))) ?_
        refine HP.take (i := 1) rfl rfl (ltn rfl) (gives_of want_none (V.move rfl)) (.cons (by exact (.tail _ (.tail _ (.tail _ (.tail _ (.tail _ (.tail _ (.tail _ (.tail _ (.tail _ (.tail _ (.tail _ (.head _))))))))))))) (.cons (by exact (.tail _ (.tail _ (.tail _ (.tail _ (.tail _ (.head _))))))) (Sub.nil))) ?_
        refine HP.take (i := 2) rfl rfl (ltn rfl) (gives_of want_none (V.move rfl)) (.cons (by exact (.tail _ (.tail _ (.tail _ (.tail _ (.tail _ (.tail _ (.tail _ (.tail _ (.tail _ (.tail _ (.tail _ (.head _))))))))))))) (.cons (by exact (.tail _ (.tail _ (.tail _ (.tail _ (.tail _ (.head _))))))) (Sub.nil))) ?_
        refine HP.take (i := 3) rfl rfl (ltn rfl) (gives_of want_none (V.move rfl)) (.cons (by exact (.tail _ (.tail _ (.tail _ (.tail _ (.tail _ (.tail _ (.tail _ (.tail _ (.tail _ (.tail _ (.tail _ (.head _))))))))))))) (.cons (by exact (.tail _ (.tail _ (.tail _ (.tail _ (.tail _ (.head _))))))) (Sub.nil))) ?_
        refine HP.take (i := 4) rfl rfl (ltn rfl) (gives_of want_none (V.indexAddr (N := (encI .i64)) (ys := _) Try.underlying27 sz3 rfl rfl (by omega) (by omega) (by exact Has.own (.there .here)))) (.cons (by exact (.tail _ (.tail _ (.tail _ (.tail _ (.tail _ (.tail _ (.tail _ (.tail _ (.tail _ (.tail _ (.tail _ (.head _))))))))))))) (.cons (by exact (.tail _ (.tail _ (.tail _ (.tail _ (.tail _ (.head _))))))) (Sub.nil))) ?_
        refine HP.take (i := 5) rfl rfl (ltn rfl) (gives_of want_none (V.loadE (N := (encI .i64)) sc3 rfl (by exact .mk (Has.own (.there .here)) (hf) rfl))) (.cons (by exact (.tail _ (.tail _ (.tail _ (.tail _ (.tail _ (.tail _ (.tail _ (.tail _ (.tail _ (.tail _ (.tail _ (.head _))))))))))))) (.cons (by exact (.tail _ (.tail _ (.tail _ (.tail _ (.tail _ (.head _))))))) (Sub.nil))) ?_
        refine HP.take (i := 6) rfl rfl (ltn rfl) (gives_of want_none (V.buildArr ((encI .i64)) ([(k : Int), f]) Try.underlying43 sz3 ze43 rfl rfl (.cons rfl (.cons rfl (.nil))) (.cons rfl (.cons rfl (.nil))) rfl)) (.cons (by exact (.tail _ (.tail _ (.tail _ (.tail _ (.tail _ (.tail _ (.tail _ (.tail _ (.tail _ (.tail _ (.tail _ (.head _))))))))))))) (.cons (by exact (.tail _ (.tail _ (.tail _ (.tail _ (.tail _ (.head _))))))) (Sub.nil))) ?_
        refine HP.one (i := 7) rfl ?_
        intro fuel listed hno haf hrp hpk hfs
        refine HO.buildRow encP2 ([((k : Int), f)]) Try.underlying42 ze43 (.cons rfl (.nil)) (.cons rfl (.nil)) (Nat.le_of_ble_eq_true rfl) (Nat.le_of_ble_eq_true rfl) (ltn rfl) ?_
        intro b106
        refine HO.nil ?_
        refine HQ.nxt hno haf hrp hpk hfs (.cons (by exact (.tail _ (.tail _ (.tail _ (.tail _ (.tail _ (.tail _ (.tail _ (.tail _ (.tail _ (.tail _ (.tail _ (.tail _ (.head _)))))))))))))) (.cons (by exact (.tail _ (.tail _ (.tail _ (.tail _ (.tail _ (.tail _ (.head _)))))))) (Sub.nil))) ?_
        refine HP.one (i := 8) rfl ?_
        intro fuel listed hno haf hrp hpk hfs
        refine HO.append (N := encP2) (zs := [((k : Int), f)]) Try.underlying42 ze43 rfl rfl rfl (by exact (.there (.there (.there (.there (.there (.there (.there (.there (.there (.there (.there (.there (.there .here)))))))))))))) (by exact Has.own .here) (by first | omega | (simp; omega)) (by decide) (ltn rfl) ?_
        intro A107 c107
        refine HO.nil ?_
        refine HQ.nxt hno haf hrp hpk hfs (.cons (by exact (.tail _ (.tail _ (.tail _ (.tail _ (.tail _ (.tail _ (.tail _ (.tail _ (.tail _ (.tail _ (.tail _ (.tail _ (.tail _ (.head _))))))))))))))) (.cons (by exact (.tail _ (.tail _ (.tail _ (.tail _ (.tail _ (.tail _ (.tail _ (.head _))))))))) (Sub.nil))) ?_
        refine HP.one (i := 9) rfl ?_
        intro fuel listed hno haf hrp hpk hfs
        refine HO.store sz42 rfl rfl rfl rfl rfl (by exact .mk (.there (.there (.there (.there (.there (.there (.there (.there (.there (.there (.there (.there (.there .here))))))))))))) (by repeat constructor)) ?_
        refine HO.nil ?_
        refine HQ.nxtF (m := 9) hno haf hrp hpk hfs (by decide) (by kernel_rfl) rfl ?_
        refine HP.done ?_
        refine HQ.block_normal ?_
        refine HQ.next ?_
        refine H.region ?_
        rw [pairs_more hf (by omega) (by assumption) (by assumption)]
        refine HO.v (V.add rfl rfl (by omega)) (ltn rfl) ?_
        refine HO.v (V.move rfl) (ltn rfl) ?_
        refine HO.nil ?_
        refine HQ.round ((k + 1, A107, c107)) ?_ ?_ ?_
        · (dsimp only; omega)
        · (dsimp only; omega)
        · skip
          exact HQ.fits (.cons rfl (.cons rfl (.cons rfl (.cons rfl (.cons rfl (.cons rfl (.cons rfl (.cons rfl (.cons rfl (.cons rfl (.cons rfl (.cons rfl (.nil))))))))))))) (by exact Rems.cons (by exact (.there (.there (.there .here)))) (Rems.cons (by exact (.there (.there (.there .here)))) (Rems.cons (by exact (.there (.there (.there .here)))) (Rems.cons (by exact (.there (.there (.there .here)))) (Rems.cons (by exact (.there (.there (.there .here)))) (Rems.cons (by exact (.there (.there (.there .here)))) (Rems.cons (by exact (.there (.there (.there .here)))) (Rems.cons (by exact (.there (.there (.there .here)))) (Rems.cons (by exact (.there (.there (.there .here)))) (Rems.cons (by exact (.there (.there (.there .here)))) (Rems.cons (by exact (.there (.there (.there .here)))) (Rems.cons (by exact .here) (Rems.cons (by exact .here) (Rems.nil))))))))))))))
      · skip
        try simp only [decide_eq_true_eq, decide_eq_false_iff_not, Bool.not_eq_true', Bool.not_eq_false'] at h98
        refine H.skip ?_
        refine HQ.block_normal ?_
        refine HQ.next ?_
        refine H.region ?_
        rw [pairs_less hf (by omega) (by omega)]
        refine HO.v (V.add rfl rfl (by omega)) (ltn rfl) ?_
        refine HO.v (V.move rfl) (ltn rfl) ?_
        refine HO.nil ?_
        refine HQ.round ((k + 1, Ak, ck)) ?_ ?_ ?_
        · (dsimp only; omega)
        · (dsimp only; omega)
        · skip
          exact HQ.fits (.cons rfl (.cons rfl (.cons rfl (.cons rfl (.cons rfl (.cons rfl (.cons rfl (.cons rfl (.cons rfl (.cons rfl (.cons rfl (.cons rfl (.nil))))))))))))) (by exact Rems.cons (by exact .here) (Rems.cons (by exact .here) (Rems.cons (by exact .here) (Rems.cons (by exact .here) (Rems.cons (by exact .here) (Rems.cons (by exact .here) (Rems.cons (by exact .here) (Rems.cons (by exact .here) (Rems.cons (by exact .here) (Rems.cons (by exact .here) (Rems.cons (by exact .here) (Rems.cons (by exact .here) (Rems.cons (by exact .here) (Rems.nil))))))))))))))
    · skip
      try simp only [decide_eq_true_eq, decide_eq_false_iff_not, Bool.not_eq_true', Bool.not_eq_false'] at g91
      refine HO.gskip rfl rfl rfl rfl (ltn rfl) ?_
      refine HO.gskip rfl rfl rfl rfl (ltn rfl) ?_
      refine HO.gskip rfl rfl rfl rfl (ltn rfl) ?_
      refine HO.gskip rfl rfl rfl rfl (ltn rfl) ?_
      refine HO.gskip rfl rfl rfl rfl (ltn rfl) ?_
      refine HO.gskip rfl rfl rfl rfl (ltn rfl) ?_
      refine HO.v (V.pickF rfl rfl) (ltn rfl) ?_
      refine HO.nil ?_
      refine HQ.next ?_
      refine H.condF rfl rfl ?_
      refine H.skip ?_
      refine HQ.block_normal ?_
      refine HQ.next ?_
      refine H.region ?_
      rw [pairs_less hf (by omega) (by omega)]
      refine HO.v (V.add rfl rfl (by omega)) (ltn rfl) ?_
      refine HO.v (V.move rfl) (ltn rfl) ?_
      refine HO.nil ?_
      refine HQ.round ((k + 1, Ak, ck)) ?_ ?_ ?_
      · (dsimp only; omega)
      · (dsimp only; omega)
      · skip
        exact HQ.fits (.cons rfl (.cons rfl (.cons rfl (.cons rfl (.cons rfl (.cons rfl (.cons rfl (.cons rfl (.cons rfl (.cons rfl (.cons rfl (.cons rfl (.nil))))))))))))) (by exact Rems.cons (by exact .here) (Rems.cons (by exact .here) (Rems.cons (by exact .here) (Rems.cons (by exact .here) (Rems.cons (by exact .here) (Rems.cons (by exact .here) (Rems.cons (by exact .here) (Rems.cons (by exact .here) (Rems.cons (by exact .here) (Rems.cons (by exact .here) (Rems.cons (by exact .here) (Rems.cons (by exact .here) (Rems.cons (by exact .here) (Rems.nil))))))))))))))
  · skip
    try simp only [decide_eq_true_eq, decide_eq_false_iff_not, Bool.not_eq_true', Bool.not_eq_false'] at h75
    have hkl : (run p p.code).firsts.take k = (run p p.code).firsts := List.take_of_length_le (by omega)
    rw [hkl]
    refine H.exit ?_
    refine HQ.then_exit ?_
    refine HQ.then_exit ?_
    refine HQ.exit_hit ?_
    refine HQ.keep (.cons (t := 1) rfl (.cons (t := 2) rfl (.cons (t := 3) rfl (.cons (t := 6) rfl (.cons (t := 7) rfl (.cons (t := 10) rfl (.cons (t := 12) rfl (.nil)))))))) ?_
    refine HQ.next ?_
    refine H.seq ?_
    refine H.region ?_
    refine HO.alloc ze3 rfl (ltn rfl) ?_
    intro b14
    refine HO.store sz3 rfl rfl rfl rfl rfl (by exact .mk .here (by repeat constructor)) ?_
    refine HO.nil ?_
    refine HQ.next ?_
    refine H.seq ?_
    refine H.seq ?_
    refine H.region ?_
    refine HO.v (V.loadA ag29 rfl (by exact .mk (.there .here) (by repeat constructor))) (ltn rfl) ?_
    refine HO.call ca9 (.cons rfl (.nil)) (copy14_w p _ _ _ _ (by omega) (by omega)) (by exact Rems.nil) (by (refine Reads.ro (.head _) ?_); (refine Reads.ro (.tail _ (.head _)) ?_); exact Reads.nil) (ltn rfl) ?_
    rintro v110 L110 ⟨C110, k110, D110, j110, rfl, rfl⟩
    dsimp only [List.nil_append, List.cons_append]
    refine HO.call ca12 (.cons rfl (.nil)) (twice_w p _ _ _ _) (by exact Rems.nil) (by exact Reads.nil) (ltn rfl) ?_
    rintro v111 L111 ⟨bp, rfl, rfl⟩
    dsimp only [List.nil_append, List.cons_append]
    refine HO.nil ?_
    refine HQ.keep (.cons (t := 2) rfl (.cons (t := 3) rfl (.cons (t := 6) rfl (.cons (t := 7) rfl (.cons (t := 10) rfl (.cons (t := 12) rfl (.cons (t := 14) rfl (.cons (t := 111) rfl (.nil))))))))) ?_
    refine HQ.next ?_
    refine H.block ?_
    refine H.rangeFunc (σ := Nat) (RY := [cellsCh b12 42 [.slice Ak (pairs (run p p.code).firsts).length ck], roE encP2 Ak (pairs (run p p.code).firsts)]) (fun s => [cellsCh b14 3 [.int .i64 ((s : Nat) : Int)]]) (fun s => [cellsCh b14 3 [.int .i64 ((s : Nat) : Int)]]) (fun s => .ret) (fun pre s => s = pre.length) (fun pre s => False) (0) rfl ca20 rfl (twice1_w bp p _ _ _ _ hv) (fun _ => rfl) rfl (by exact Rems.cons (by exact (.there (.there (.there .here)))) (Rems.nil)) (by (refine Reads.own (.head _) ?_); (refine Reads.row (.tail _ (.head _)) ?_); (refine Reads.row (.tail _ (.tail _ (.head _))) ?_); exact Reads.nil) (by (refine Reads.own (.tail _ (.tail _ (.tail _ (.tail _ (.tail _ (.tail _ (.tail _ (.tail _ (.tail _ (.tail _ (.tail _ (.tail _ (.tail _ (.tail _ (.head _))))))))))))))) ?_); (refine Reads.row (.tail _ (.tail _ (.tail _ (.tail _ (.tail _ (.tail _ (.tail _ (.tail _ (.tail _ (.tail _ (.tail _ (.tail _ (.tail _ (.tail _ (.tail _ (.head _)))))))))))))))) ?_); exact Reads.nil) (by rfl) ?_ ?_ ?_
    · skip
      intro lp rc pre x s wR MR hpre hJ
      try dsimp only at hJ ⊢
      subst hJ
      have hxl := prefix_len hpre
      have hx := prefix_at hpre
      refine H.keep (.cons (t := 2) rfl (.cons (t := 3) rfl (.cons (t := 12) rfl (.cons (t := 14) rfl (.cons (t := 112) rfl (.cons (t := 113) rfl (.nil))))))) ?_
      refine H.seq ?_
      refine H.region ?_
      refine HO.v (V.assign rfl) (ltn rfl) ?_
      refine HO.nil ?_
      refine HQ.keep (.cons (t := 2) rfl (.cons (t := 3) rfl (.cons (t := 12) rfl (.cons (t := 14) rfl (.cons (t := 15) rfl (.cons (t := 113) rfl (.nil))))))) ?_
      refine HQ.next ?_
      refine H.region ?_
      refine HO.v (V.assign rfl) (ltn rfl) ?_
      refine HO.nil ?_
      refine HQ.begun rfl (by exact .here) ?_
      refine H.block ?_
      refine H.seq ?_
      refine H.seq ?_
      refine H.region ?_
      refine HO.v (V.load sc3 rfl (by exact .mk (.there .here) rfl)) (ltn rfl) ?_
      refine HO.v (V.loadR sc42 rfl (by exact (.head _)) rfl) (ltn rfl) ?_
      refine HO.v (V.len Try.underlying42 rfl) (ltn rfl) ?_
      refine HO.v (V.geq rfl rfl) (ltn rfl) ?_
      refine HO.v (V.move rfl) (ltn rfl) ?_
      refine HO.setF (t := 118) rfl (by simp; omega) ?_
      refine HO.gdo rfl rfl rfl rfl ?_
      refine HO.v (V.loadR sc42 rfl (by exact (.head _)) rfl) (ltn rfl) ?_
      refine HO.gdo rfl rfl rfl rfl ?_
      refine HO.v (V.load sc3 rfl (by exact .mk (.there .here) rfl)) (ltn rfl) ?_
      refine HO.gdo rfl rfl rfl rfl ?_
      refine HO.v (V.indexAddr (N := encP2) (ys := _) Try.underlying42 sz43 rfl rfl (by omega) (by omega) (by exact Has.ro (.tail _ (.head _)))) (ltn rfl) ?_
      refine HO.gdo rfl rfl rfl rfl ?_
      refine HO.v (V.loadEA (N := encP2) ag43 rfl (by exact .mk (Has.ro (.tail _ (.head _))) (hx) rfl)) (ltn rfl) ?_
      refine HO.gdo rfl rfl rfl rfl ?_
      refine HO.v (V.move rfl) (ltn rfl) ?_
      refine HO.gdo rfl rfl rfl rfl ?_
      refine HO.v (V.move rfl) (ltn rfl) ?_
      refine HO.gdo rfl rfl rfl rfl ?_
      refine HO.v (V.buildArr ((encI .i64)) ([x.1, x.2]) Try.underlying43 sz3 ze43 rfl rfl (.cons rfl (.cons rfl (.nil))) (.cons rfl (.cons rfl (.nil))) rfl) (ltn rfl) ?_
      refine HO.gdo rfl rfl rfl rfl ?_
      refine HO.v (V.neqA [_, _] [_, _] ia43 rfl rfl rfl rfl) (ltn rfl) ?_
      refine HO.v (V.pickF rfl rfl) (ltn rfl) ?_
      refine HO.nil ?_
      refine HQ.keep (.cons (t := 2) rfl (.cons (t := 3) rfl (.cons (t := 14) rfl (.cons (t := 127) rfl (.nil))))) ?_
      refine HQ.next ?_
      refine H.condF rfl (by simp) ?_
      refine H.skip ?_
      refine HQ.next ?_
      refine H.region ?_
      refine HO.v (V.load sc3 rfl (by exact .mk (.there .here) rfl)) (ltn rfl) ?_
      refine HO.v (V.add rfl rfl (by omega)) (ltn rfl) ?_
      refine HO.store sz3 rfl rfl rfl rfl rfl (by exact .mk (.there .here) (by repeat constructor)) ?_
      refine HO.nil ?_
      refine HQ.block_normal ?_
      refine HQ.round_next (C := [cellsCh b14 3 [.int .i64 (((pre.length + 1) : Nat) : Int)]]) rfl rfl (by exact Rems.cons (by exact (.there .here)) (Rems.cons (by exact .here) (Rems.nil))) ?_
      exact .inl ⟨pre.length + 1, rfl, rfl, by simp⟩
    · skip
      intro D1 s hJ
      try dsimp only at hJ ⊢
      subst hJ
      dsimp only [List.nil_append, List.cons_append]
      refine HQ.block_normal ?_
      refine HQ.keep (.cons (t := 2) rfl (.cons (t := 3) rfl (.cons (t := 6) rfl (.cons (t := 7) rfl (.cons (t := 10) rfl (.cons (t := 12) rfl (.cons (t := 14) rfl (.nil)))))))) ?_
      refine HQ.next ?_
      refine H.seq ?_
      refine H.region ?_
      refine HO.v (V.loadA ag29 rfl (by exact .mk (.there (.there (.there (.there (.there (.there .here)))))) (by repeat constructor))) (ltn rfl) ?_
      refine HO.call ca9 (.cons rfl (.nil)) (copy14_w (passP p) _ _ _ _ (by omega) (by omega)) (by exact Rems.nil) (by (refine Reads.row (.tail _ (.tail _ (.tail _ (.tail _ (.tail _ (.tail _ (.tail _ (.tail _ (.tail _ (.tail _ (.tail _ (.tail _ (.tail _ (.tail _ (.head _))))))))))))))) ?_); (refine Reads.row (.tail _ (.tail _ (.tail _ (.tail _ (.tail _ (.tail _ (.tail _ (.tail _ (.tail _ (.tail _ (.tail _ (.tail _ (.tail _ (.tail _ (.tail _ (.head _)))))))))))))))) ?_); exact Reads.nil) (ltn rfl) ?_
      rintro v132 L132 ⟨C132, k132, D132, j132, rfl, rfl⟩
      dsimp only [List.nil_append, List.cons_append]
      refine HO.call ca10 (.cons rfl (.nil)) (sharePass_w (passP p) _ _ _ _ hq) (by exact Rems.nil) (by (refine Reads.row (.head _) ?_); (refine Reads.row (.tail _ (.head _)) ?_); exact Reads.nil) (ltn rfl) ?_
      rintro v133 L133 ⟨C133, k133, D133, j133, rfl, rfl⟩
      rw [hpp]
      dsimp only [List.nil_append, List.cons_append]
      refine HO.v (V.move rfl) (ltn rfl) ?_
      refine HO.v (V.extract rfl rfl) (ltn rfl) ?_
      refine HO.v (V.extract rfl rfl) (ltn rfl) ?_
      refine HO.alloc ze29 rfl (ltn rfl) ?_
      intro b17
      refine HO.store sz29 rfl rfl rfl rfl rfl (by exact .mk .here (by repeat constructor)) ?_
      refine HO.v (V.assign rfl) (ltn rfl) ?_
      refine HO.nil ?_
      refine HQ.keep (.cons (t := 2) rfl (.cons (t := 3) rfl (.cons (t := 6) rfl (.cons (t := 7) rfl (.cons (t := 12) rfl (.cons (t := 14) rfl (.cons (t := 17) rfl (.cons (t := 18) rfl (.nil))))))))) ?_
      refine HQ.next ?_
      refine H.seq ?_
      refine H.region ?_
      refine HO.v (V.move rfl) (ltn rfl) ?_
      refine HO.v (V.len Try.underlying26 rfl) (ltn rfl) ?_
      refine HO.v (V.load sc3 rfl (by exact .mk (.there (.there (.there (.there (.there .here))))) rfl)) (ltn rfl) ?_
      refine HO.v (V.load sc42 rfl (by exact .mk (.there (.there (.there (.there (.there (.there (.there (.there (.there (.there (.there (.there (.there (.there (.there (.there (.there (.there (.there (.there (.there .here))))))))))))))))))))) rfl)) (ltn rfl) ?_
      refine HO.v (V.len Try.underlying42 rfl) (ltn rfl) ?_
      refine HO.v (V.eqlI rfl rfl) (ltn rfl) ?_
      refine HO.v (V.move rfl) (ltn rfl) ?_
      refine HO.setT (t := 142) rfl (by simp) ?_
      refine HO.gdo rfl rfl rfl rfl ?_
      refine HO.v (V.move rfl) (ltn rfl) ?_
      refine HO.gdo rfl rfl rfl rfl ?_
      refine HO.v (V.eqlI rfl rfl) (ltn rfl) ?_
      refine HO.v (V.pickT rfl rfl) (ltn rfl) ?_
      refine HO.v (V.move rfl) (ltn rfl) ?_
      refine HO.setT (t := 146) rfl (by rfl) ?_
      refine HO.gdo rfl rfl rfl rfl ?_
      refine HO.v (V.loadA ag29 rfl (by exact .mk .here (by repeat constructor))) (ltn rfl) ?_
      refine HO.gdo rfl rfl rfl rfl ?_
      refine HO.v (V.move rfl) (ltn rfl) ?_
      refine HO.gdo rfl rfl rfl rfl ?_
      refine HO.v (V.move rfl) (ltn rfl) ?_
      refine HO.gdo rfl rfl rfl rfl ?_
      refine HO.call ca11 (.cons rfl (.cons rfl (.cons rfl (.nil)))) (same14_w (passP p) _ _ _ _ _ _ _ _ hqc hqo) (by exact Rems.nil) (by (refine Reads.row (.tail _ (.head _)) ?_); (refine Reads.row (.tail _ (.tail _ (.head _))) ?_); (refine Reads.row (.tail _ (.tail _ (.tail _ (.tail _ (.tail _ (.tail _ (.tail _ (.tail _ (.tail _ (.tail _ (.tail _ (.tail _ (.tail _ (.tail _ (.tail _ (.tail _ (.head _))))))))))))))))) ?_); (refine Reads.row (.tail _ (.tail _ (.tail _ (.tail _ (.tail _ (.tail _ (.tail _ (.tail _ (.tail _ (.tail _ (.tail _ (.tail _ (.tail _ (.tail _ (.tail _ (.tail _ (.tail _ (.head _)))))))))))))))))) ?_); exact Reads.nil) (ltn rfl) ?_
      rintro v150 L150 ⟨rfl, rfl⟩
      dsimp only [List.nil_append, List.cons_append]
      refine HO.v (V.pickT rfl rfl) (ltn rfl) ?_
      refine HO.store sz3 rfl rfl rfl rfl rfl (by exact .mk (.there (.there (.there (.there (.there (.there (.there (.there (.there (.there (.there (.there .here)))))))))))) (by repeat constructor)) ?_
      refine HO.store sz4 rfl rfl rfl rfl rfl (by exact .mk (.there (.there (.there (.there (.there (.there (.there (.there (.there (.there (.there (.there (.there .here))))))))))))) (by repeat constructor)) ?_
      refine HO.nil ?_
      refine HQ.keep (.cons (t := 2) rfl (.cons (t := 3) rfl (.nil))) ?_
      refine HQ.next ?_
      refine H.ret ?_
      refine HQ.end_d rfl (by exact (.there (.there (.there (.there (.there (.there (.there (.there .here))))))))) rfl rfl rfl (.inl rfl) _ (fun a w s => resR2 Try.results4 s (.one sc3 rfl (by exact .mk (.there .here) rfl)) (.one sc4 rfl (by exact .mk .here rfl))) ?_
      refine ⟨[], _, (by exact Rems.nil), ?_⟩
      exact ⟨rfl, rfl⟩
    · skip
      intro D2 s pre hpre hJ
      exact hJ.elim

end Go.Proofs.Ytcmlghemanjaaaa
