/- Walks of the law of values: what is found by hand. Conditions: as the theorems say. -/
import Derived.Test.YtcmlghemanjaaaaPgK
import Derived.Test.YtcmlghemanjaaaaShareWalks5
set_option linter.unusedVariables false
set_option linter.unusedSimpArgs false
set_option maxRecDepth 10000
namespace Go.Proofs.Ytcmlghemanjaaaa
open Go Go.RowKit Sl Pg

set_option maxRecDepth 100000
theorem ag55 : Aggr Go.Proofs.Try.prog 55 4 := ⟨by kernel_rfl, by kernel_rfl⟩
theorem ca14 : Callable Go.Proofs.Try.prog 14 := by unfold Callable; kernel_rfl
theorem fa55_1 : (Go.Proofs.Try.prog.underlying 55).bind (fun | .struct fs => (fs[1]?).bind fun f => (Go.Proofs.Try.prog.info? f.type).map fun j => (f.offset, j.size == 0) | _ => none) = some (1, false) := by kernel_rfl
theorem fa55_2 : (Go.Proofs.Try.prog.underlying 55).bind (fun | .struct fs => (fs[2]?).bind fun f => (Go.Proofs.Try.prog.info? f.type).map fun j => (f.offset, j.size == 0) | _ => none) = some (2, false) := by kernel_rfl
theorem kf55 : KeyFields Go.Proofs.Try.prog 55 4 := ⟨_, Go.Proofs.Try.underlying55, by kernel_rfl, by kernel_rfl, rfl, by kernel_rfl, ⟨90, by kernel_rfl⟩, by kernel_rfl⟩
theorem pl55 : Places Go.Proofs.Try.prog 55 [(0, 1), (1, 1), (2, 1), (3, 1)] := ⟨_, Go.Proofs.Try.underlying55, by kernel_rfl⟩
theorem sz55 : (Go.Proofs.Try.prog.info? 55).map (·.size) = some 4 := by kernel_rfl
theorem ze27 : TyZ Go.Proofs.Try.prog 27 (.slice none 0 0) 1 24 := by unfold TyZ; kernel_rfl
theorem ze55 : TyZ Go.Proofs.Try.prog 55 (.agg #[(.int .i64 0), (.int .i64 0), (.int .i64 0), (.int .i64 0)]) 4 32 := by unfold TyZ; kernel_rfl
set_option maxRecDepth 10000

/-- Keys of the law. -/
noncomputable def keyL : Keyer Try.prog 55 (Int × Int × Int × Int) := key4 laidOut kf55 (by kernel_rfl) (by kernel_rfl)
noncomputable abbrev lawMap (b : Nat) (m : List (Key × Int)) : Ch := mapE keyL vI b m

theorem hold14_w (b : Nat) (Ha : Option Addr) (hc : Nat) (held : List Int) (v : Int) (hlen : held.length ≤ 1000000) :
    Tri Try.prog 14 #[.int .i64 v, .pointer (some ⟨b, 0, none⟩)] [cellsCh b 27 [.slice Ha held.length hc], roE (encI .i64) Ha held] [] (fun u L' => u = .int .i64 (holder held v) ∧ L' = []) := by
  refine Tri.of' 18 [.int .i64 v, .pointer (some ⟨b, 0, none⟩)] [(0, .int .i64 v), (1, .pointer (some ⟨b, 0, none⟩))] Try.func14 Try.ntmps14 rfl rfl rfl ?_
  intro w0
  refine H.seq ?_
  refine H.region ?_
  refine HO.v (V.assign rfl) (ltn rfl) ?_
  refine HO.nil ?_
  refine HQ.next ?_
  refine H.seq ?_
  refine H.seq ?_
  refine H.region ?_
  refine HO.v (V.loadR sc27 rfl (by exact (.head _)) rfl) (ltn rfl) ?_
  refine HO.v (V.len Try.underlying27 rfl) (ltn rfl) ?_
  refine HO.v (V.move rfl) (ltn rfl) ?_
  refine HO.nil ?_
  refine HQ.next ?_
  refine H.block ?_
  refine H.loop (σ := Nat) (fun s => held.length - s) (fun s => [(0, .int .i64 v), (6, .slice Ha held.length hc), (7, .int .i64 ((held.length : Nat) : Int)), (8, .int .i64 ((s : Nat) : Int))]) (fun s => []) (fun s => s ≤ held.length ∧ ∀ j, j < s → held[j]? ≠ some v) (0) ?_ ?_ ?_
  · exact ⟨Nat.zero_le _, fun j hj => absurd hj (Nat.not_lt_zero _)⟩
  · skip
    exact HQ.fits (.cons rfl (.cons rfl (.cons rfl (.cons rfl (.nil))))) (by exact Rems.nil)
  intro k hI
  obtain ⟨hk, hno⟩ := hI
  try dsimp only at hk hno ⊢
  refine H.seq ?_
  refine H.region ?_
  refine HO.v (V.lss rfl rfl) (ltn rfl) ?_
  refine HO.nil ?_
  refine HQ.next ?_
  refine H.seq ?_
  refine H.condB rfl (fun h9 => ?_) (fun h9 => ?_)
  · skip
    try simp only [decide_eq_true_eq, decide_eq_false_iff_not, Bool.not_eq_true', Bool.not_eq_false'] at h9
    obtain ⟨x, hx⟩ : ∃ x, held[k]? = some x := ⟨_, List.getElem?_eq_getElem (by omega)⟩
    refine H.skip ?_
    refine HQ.next ?_
    refine H.seq ?_
    refine H.block ?_
    refine H.seq ?_
    refine H.region ?_
    refine HO.v (V.move rfl) (ltn rfl) ?_
    refine HO.v (V.indexAddr (N := (encI .i64)) (ys := _) Try.underlying27 sz3 rfl rfl (by omega) (by omega) (by exact Has.ro (.tail _ (.head _)))) (ltn rfl) ?_
    refine HO.v (V.loadE (N := (encI .i64)) sc3 rfl (by exact .mk (Has.ro (.tail _ (.head _))) (hx) rfl)) (ltn rfl) ?_
    refine HO.v (V.assign rfl) (ltn rfl) ?_
    refine HO.v (V.assign rfl) (ltn rfl) ?_
    refine HO.nil ?_
    refine HQ.next ?_
    refine H.seq ?_
    refine H.region ?_
    refine HO.v (V.move rfl) (ltn rfl) ?_
    refine HO.v (V.move rfl) (ltn rfl) ?_
    refine HO.v (V.eqlI rfl rfl) (ltn rfl) ?_
    refine HO.nil ?_
    refine HQ.next ?_
    refine H.condB rfl (fun h15 => ?_) (fun h15 => ?_)
    · skip
      try simp only [decide_eq_true_eq, decide_eq_false_iff_not, Bool.not_eq_true', Bool.not_eq_false'] at h15
      refine H.seq ?_
      refine H.region ?_
      refine HO.v (V.move rfl) (ltn rfl) ?_
      refine HO.v (V.assign rfl) (ltn rfl) ?_
      refine HO.nil ?_
      refine HQ.next ?_
      refine H.ret ?_
      refine HQ.block_ret ?_
      refine HQ.then_ret ?_
      refine HQ.then_ret ?_
      refine HQ.block_ret ?_
      refine HQ.then_ret ?_
      refine HQ.end_ rfl rfl rfl rfl (.inl rfl) _ (fun a w s => res1 Try.results14 s rfl) ?_
      refine ⟨_, _, .nil, ?_, rfl⟩
      rw [holder_hit (k := k) (by rw [hx, h15]) hno]
    · skip
      try simp only [decide_eq_true_eq, decide_eq_false_iff_not, Bool.not_eq_true', Bool.not_eq_false'] at h15
      refine H.skip ?_
      refine HQ.block_normal ?_
      refine HQ.next ?_
      refine H.region ?_
      refine HO.v (V.add rfl rfl (by omega)) (ltn rfl) ?_
      refine HO.v (V.move rfl) (ltn rfl) ?_
      refine HO.nil ?_
      refine HQ.round (k + 1) ?_ ?_ ?_
      · exact ⟨by omega, fun j hj => by (rcases Nat.lt_or_ge j k with h | h; exact hno j h; (have : j = k := by omega); subst this; rw [hx]; intro e; injection e with e; exact h15 e)⟩
      · omega
      · skip
        exact HQ.fits (.cons rfl (.cons rfl (.cons rfl (.cons rfl (.nil))))) (by exact Rems.nil)
  · skip
    try simp only [decide_eq_true_eq, decide_eq_false_iff_not, Bool.not_eq_true', Bool.not_eq_false'] at h9
    refine H.exit ?_
    refine HQ.then_exit ?_
    refine HQ.then_exit ?_
    refine HQ.exit_hit ?_
    refine HQ.next ?_
    refine H.seq ?_
    refine H.region ?_
    refine HO.v (V.assign rfl) (ltn rfl) ?_
    refine HO.nil ?_
    refine HQ.next ?_
    refine H.ret ?_
    refine HQ.end_ rfl rfl rfl rfl (.inl rfl) _ (fun a w s => res1 Try.results14 s rfl) ?_
    refine ⟨_, _, .nil, ?_, rfl⟩
    rw [holder_none (fun j hj => hno j (by omega))]
set_option maxHeartbeats 4000000 in
theorem found14_w (p : Prg) (A : Option Addr) (n : Nat) (Bo : Option Addr) (m : Nat) (hv : Right p) :
    Tri Try.prog 7 #[vPg p A n Bo m] [roE encIn A p.code, roE (encI .i64) Bo p.outs] [] (fun v L' => ∃ A1 k1 A2 k2 A3 k3 A4 k4, v = .tuple #[.slice A1 (run p p.code).vals.length k1, .slice A2 (run p p.code).firsts.length k2, .slice A3 (passP p).code.length k3, .slice A4 (passP p).outs.length k4] ∧ L' = [rowE (encI .i64) 3 A1 k1 (run p p.code).vals, rowE (encI .i64) 3 A2 k2 (run p p.code).firsts, rowE encIn 50 A3 k3 (passP p).code, rowE (encI .i64) 3 A4 k4 (passP p).outs]) := by
  have hp1 := hv.ins1
  have hp2 := hv.ins2
  have hp3 := hv.regs
  have hp4 := hv.code
  have hp5 := hv.outs2
  refine Tri.of' 201 [vPg p A n Bo m] [(0, vPg p A n Bo m)] Try.func7 Try.ntmps7 rfl rfl rfl ?_
  intro w0
  refine H.seq ?_
  refine H.region ?_
  refine HO.box rfl rfl (ltn rfl) ?_
  intro b1
  refine HO.v (V.assign rfl) (ltn rfl) ?_
  refine HO.v (V.assign rfl) (ltn rfl) ?_
  refine HO.v (V.assign rfl) (ltn rfl) ?_
  refine HO.v (V.assign rfl) (ltn rfl) ?_
  refine HO.nil ?_
  refine HQ.next ?_
  refine H.seq ?_
  refine H.region ?_
  refine HO.v (V.fieldAddr (fs := #[]) fa29_1 rfl) (ltn rfl) ?_
  refine HO.v (V.load sc3 rfl (by exact .mk .here rfl)) (ltn rfl) ?_
  refine HO.makeSlice (encI .i64) (0) Try.underlying27 ze3 rfl rfl rfl rfl (by omega) (by omega) (by omega) (ltn rfl) ?_
  intro b24
  refine HO.alloc ze27 rfl (ltn rfl) ?_
  intro b6
  refine HO.store sz27 rfl rfl rfl rfl rfl (by exact .mk .here (by repeat constructor)) ?_
  refine HO.nil ?_
  refine HQ.keep (.cons (t := 1) rfl (.cons (t := 2) rfl (.cons (t := 3) rfl (.cons (t := 4) rfl (.cons (t := 5) rfl (.cons (t := 6) rfl (.nil))))))) ?_
  refine HQ.next ?_
  refine H.seq ?_
  refine H.seq ?_
  refine H.region ?_
  refine HO.v (V.load sc27 rfl (by exact .mk .here rfl)) (ltn rfl) ?_
  refine HO.v (V.len Try.underlying27 rfl) (ltn rfl) ?_
  refine HO.v (V.move rfl) (ltn rfl) ?_
  refine HO.nil ?_
  refine HQ.keep (.cons (t := 1) rfl (.cons (t := 2) rfl (.cons (t := 3) rfl (.cons (t := 4) rfl (.cons (t := 5) rfl (.cons (t := 6) rfl (.cons (t := 26) rfl (.cons (t := 27) rfl (.nil))))))))) ?_
  refine HQ.next ?_
  refine H.block ?_
  have hrl : ((List.replicate p.regs.toNat (0 : Int)).length : Int) = (p.regs.toNat : Nat) := by simp
  rw [hrl]
  refine H.loop (σ := Nat × List Int) (fun s => p.regs.toNat - s.1) (fun s => [(1, .pointer (some ⟨b1, 0, none⟩)), (2, .slice none 0 0), (3, .slice none 0 0), (4, .slice none 0 0), (5, .slice none 0 0), (6, .pointer (some ⟨b6, 0, none⟩)), (26, .int .i64 ((p.regs.toNat : Nat) : Int)), (27, .int .i64 ((s.1 : Nat) : Int))]) (fun s => [cellsCh b1 29 [.int .i64 p.ins, .int .i64 p.regs, .slice A p.code.length n, .slice Bo p.outs.length m], cellsCh b6 27 [.slice (some ⟨b24, 0, none⟩) s.2.length p.regs.toNat], rowE (encI .i64) 3 (some ⟨b24, 0, none⟩) p.regs.toNat s.2]) (fun s => s.1 ≤ p.regs.toNat ∧ s.2 = newHeld p.ins s.1 ++ List.replicate (p.regs.toNat - s.1) 0) ((0, List.replicate p.regs.toNat 0)) ?_ ?_ ?_
  · exact ⟨Nat.zero_le _, by simp [newHeld]⟩
  · skip
    exact HQ.fits (.cons rfl (.cons rfl (.cons rfl (.cons rfl (.cons rfl (.cons rfl (.cons rfl (.cons rfl (.nil))))))))) (by exact Rems.cons (by exact (.there (.there .here))) (Rems.cons (by exact .here) (Rems.cons (by exact .here) (Rems.nil))))
  rintro ⟨k, hl⟩ ⟨hk, hhl⟩
  dsimp only at hk hhl ⊢
  have hll : hl.length = p.regs.toNat := by (rw [hhl]; simp [newHeld]; omega)
  refine H.seq ?_
  refine H.region ?_
  refine HO.v (V.lss rfl rfl) (ltn rfl) ?_
  refine HO.nil ?_
  refine HQ.next ?_
  refine H.seq ?_
  refine H.condB rfl (fun h28 => ?_) (fun h28 => ?_)
  · skip
    try simp only [decide_eq_true_eq, decide_eq_false_iff_not, Bool.not_eq_true', Bool.not_eq_false'] at h28
    refine H.skip ?_
    refine HQ.next ?_
    refine H.seq ?_
    refine H.block ?_
    refine H.seq ?_
    refine H.region ?_
    refine HO.v (V.move rfl) (ltn rfl) ?_
    refine HO.v (V.assign rfl) (ltn rfl) ?_
    refine HO.nil ?_
    refine HQ.next ?_
    refine H.region ?_
    refine HO.v (V.load sc27 rfl (by exact .mk (.there .here) rfl)) (ltn rfl) ?_
    refine HO.v (V.move rfl) (ltn rfl) ?_
    refine HO.v (V.move rfl) (ltn rfl) ?_
    refine HO.v (V.fieldAddr (fs := #[]) fa29_0 rfl) (ltn rfl) ?_
    refine HO.v (V.load sc3 rfl (by exact .mk .here rfl)) (ltn rfl) ?_
    refine HO.v (V.min rfl rfl) (ltn rfl) ?_
    refine HO.v (V.indexAddr (N := (encI .i64)) (ys := _) Try.underlying27 sz3 rfl rfl (by omega) (by omega) (by exact Has.own (.there (.there .here)))) (ltn rfl) ?_
    refine HO.storeS (N := (encI .i64)) (z := if p.ins < (k : Int) then p.ins else (k : Int)) sz3 rfl rfl rfl (by exact .mk (.there (.there .here)) (by first | assumption | omega)) ?_
    refine HO.nil ?_
    refine HQ.block_normal ?_
    refine HQ.next ?_
    refine H.region ?_
    rw [show hl.length = (hl.set k (if p.ins < (k : Int) then p.ins else (k : Int))).length by simp]
    refine HO.v (V.add rfl rfl (by omega)) (ltn rfl) ?_
    refine HO.v (V.move rfl) (ltn rfl) ?_
    refine HO.nil ?_
    refine HQ.round ((k + 1, hl.set k (if p.ins < (k : Int) then p.ins else (k : Int)))) ?_ ?_ ?_
    · exact ⟨by dsimp only; omega, by dsimp only; rw [hhl]; exact held_set (by omega)⟩
    · (dsimp only; omega)
    · skip
      exact HQ.fits (.cons rfl (.cons rfl (.cons rfl (.cons rfl (.cons rfl (.cons rfl (.cons rfl (.cons rfl (.nil))))))))) (by exact Rems.cons (by exact (.there .here)) (Rems.cons (by exact (.there .here)) (Rems.cons (by exact .here) (Rems.nil))))
  · skip
    try simp only [decide_eq_true_eq, decide_eq_false_iff_not, Bool.not_eq_true', Bool.not_eq_false'] at h28
    refine H.exit ?_
    refine HQ.then_exit ?_
    refine HQ.then_exit ?_
    refine HQ.exit_hit ?_
    refine HQ.keep (.cons (t := 1) rfl (.cons (t := 2) rfl (.cons (t := 3) rfl (.cons (t := 4) rfl (.cons (t := 5) rfl (.cons (t := 6) rfl (.nil))))))) ?_
    refine HQ.next ?_
    refine H.seq ?_
    refine H.region ?_
    obtain rfl : hl = (newTab p).held := by (rw [hhl, show k = p.regs.toNat by omega]; simp [newTab])
    refine HO.v (V.fieldAddr (fs := #[]) fa29_0 rfl) (ltn rfl) ?_
    refine HO.v (V.load sc3 rfl (by exact .mk .here rfl)) (ltn rfl) ?_
    refine HO.v (V.add rfl rfl (by omega)) (ltn rfl) ?_
    refine HO.v (V.assign rfl) (ltn rfl) ?_
    refine HO.nil ?_
    refine HQ.keep (.cons (t := 1) rfl (.cons (t := 2) rfl (.cons (t := 3) rfl (.cons (t := 4) rfl (.cons (t := 5) rfl (.cons (t := 6) rfl (.cons (t := 8) rfl (.nil)))))))) ?_
    refine HQ.next ?_
    refine H.seq ?_
    refine H.region ?_
    refine HO.makeMap (keyL) (vI) (ltn rfl) ?_
    intro b41
    refine HO.makeMap (keyL) (vI) (ltn rfl) ?_
    intro b42
    refine HO.v (V.assign rfl) (ltn rfl) ?_
    refine HO.v (V.assign rfl) (ltn rfl) ?_
    refine HO.nil ?_
    refine HQ.keep (.cons (t := 1) rfl (.cons (t := 2) rfl (.cons (t := 3) rfl (.cons (t := 4) rfl (.cons (t := 5) rfl (.cons (t := 6) rfl (.cons (t := 8) rfl (.cons (t := 9) rfl (.cons (t := 10) rfl (.nil)))))))))) ?_
    refine HQ.next ?_
    refine H.seq ?_
    refine H.region ?_
    refine HO.v (V.makeFunc (.nil) (.cons rfl (.nil))) (ltn rfl) ?_
    refine HO.v (V.assign rfl) (ltn rfl) ?_
    refine HO.nil ?_
    refine HQ.keep (.cons (t := 1) rfl (.cons (t := 2) rfl (.cons (t := 3) rfl (.cons (t := 4) rfl (.cons (t := 5) rfl (.cons (t := 6) rfl (.cons (t := 8) rfl (.cons (t := 9) rfl (.cons (t := 10) rfl (.cons (t := 11) rfl (.nil))))))))))) ?_
    refine HQ.next ?_
    refine H.seq ?_
    refine H.seq ?_
    refine H.region ?_
    refine HO.v (V.fieldAddr (fs := #[]) fa29_2 rfl) (ltn rfl) ?_
    refine HO.v (V.load sc26 rfl (by exact .mk (.there (.there .here)) rfl)) (ltn rfl) ?_
    refine HO.v (V.len Try.underlying26 rfl) (ltn rfl) ?_
    refine HO.v (V.move rfl) (ltn rfl) ?_
    refine HO.nil ?_
    refine HQ.keep (.cons (t := 1) rfl (.cons (t := 2) rfl (.cons (t := 3) rfl (.cons (t := 4) rfl (.cons (t := 5) rfl (.cons (t := 6) rfl (.cons (t := 8) rfl (.cons (t := 9) rfl (.cons (t := 10) rfl (.cons (t := 11) rfl (.cons (t := 45) rfl (.cons (t := 46) rfl (.cons (t := 47) rfl (.nil)))))))))))))) ?_
    refine HQ.next ?_
    refine H.block ?_
    refine H.loop (σ := Nat × Option Addr × Nat × Option Addr × Nat × Option Addr × Nat) (fun s => p.code.length - s.1) (fun s => [(1, .pointer (some ⟨b1, 0, none⟩)), (6, .pointer (some ⟨b6, 0, none⟩)), (9, .map (some b41)), (10, .map (some b42)), (11, .func (.func 14) #[] #[.pointer (some ⟨b6, 0, none⟩)]), (45, .slice A p.code.length n), (46, .int .i64 ((p.code.length : Nat) : Int)), (2, .slice s.2.1 (run p (p.code.take s.1)).vals.length s.2.2.1), (3, .slice s.2.2.2.1 (run p (p.code.take s.1)).firsts.length s.2.2.2.2.1), (4, .slice s.2.2.2.2.2.1 (run p (p.code.take s.1)).code.length s.2.2.2.2.2.2), (5, .slice none 0 0), (8, .int .i64 (run p (p.code.take s.1)).t.next), (47, .int .i64 ((s.1 : Nat) : Int))]) (fun s => [cellsCh b1 29 [.int .i64 p.ins, .int .i64 p.regs, .slice A p.code.length n, .slice Bo p.outs.length m], cellsCh b6 27 [.slice (some ⟨b24, 0, none⟩) (run p (p.code.take s.1)).t.held.length p.regs.toNat], rowE (encI .i64) 3 (some ⟨b24, 0, none⟩) p.regs.toNat (run p (p.code.take s.1)).t.held, lawMap b41 (run p (p.code.take s.1)).t.known, lawMap b42 (run p (p.code.take s.1)).t.first, rowE (encI .i64) 3 s.2.1 s.2.2.1 (run p (p.code.take s.1)).vals, rowE (encI .i64) 3 s.2.2.2.1 s.2.2.2.2.1 (run p (p.code.take s.1)).firsts, rowE encIn 50 s.2.2.2.2.2.1 s.2.2.2.2.2.2 (run p (p.code.take s.1)).code]) (fun s => s.1 ≤ p.code.length) ((0, none, 0, none, 0, none, 0)) ?_ ?_ ?_
    · exact Nat.zero_le _
    · skip
      refine HQ.free (rowE (encI .i64) 3 none 0 ([] : List Int)) rfl (fun w => OwnRow.nil w 3 1) ?_
      refine HQ.free (rowE (encI .i64) 3 none 0 ([] : List Int)) rfl (fun w => OwnRow.nil w 3 1) ?_
      refine HQ.free (rowE encIn 50 none 0 ([] : List Ins)) rfl (fun w => OwnRow.nil w 50 5) ?_
      exact HQ.fits (.cons rfl (.cons rfl (.cons rfl (.cons rfl (.cons rfl (.cons rfl (.cons rfl (.cons rfl (.cons rfl (.cons rfl (.cons rfl (.cons rfl (.cons rfl (.nil)))))))))))))) (by exact Rems.cons (by exact (.there (.there (.there (.there (.there .here)))))) (Rems.cons (by exact (.there (.there (.there (.there (.there .here)))))) (Rems.cons (by exact (.there (.there (.there (.there (.there .here)))))) (Rems.cons (by exact (.there (.there (.there (.there .here))))) (Rems.cons (by exact (.there (.there (.there .here)))) (Rems.cons (by exact (.there .here)) (Rems.cons (by exact (.there .here)) (Rems.cons (by exact .here) (Rems.nil)))))))))
    rintro ⟨k, Av, cv, Af, cf, Ac, cc⟩ hk
    dsimp only at hk ⊢
    refine H.seq ?_
    refine H.region ?_
    refine HO.v (V.lss rfl rfl) (ltn rfl) ?_
    refine HO.nil ?_
    refine HQ.next ?_
    refine H.seq ?_
    refine H.condB rfl (fun h48 => ?_) (fun h48 => ?_)
    · skip
      try simp only [decide_eq_true_eq, decide_eq_false_iff_not, Bool.not_eq_true', Bool.not_eq_false'] at h48
      obtain ⟨i, hi⟩ : ∃ i, p.code[k]? = some i := ⟨_, List.getElem?_eq_getElem (by omega)⟩
      have hmi := hv.may i (List.mem_of_getElem? hi)
      have hto0 := hmi.to0
      have hto1 := hmi.to1
      have hma := may_a hmi
      obtain ⟨s, hs⟩ : ∃ s, run p (p.code.take k) = s := ⟨_, rfl⟩
      have hf := prefix_fine hv hs
      have hln := hf.len
      have hnx := hf.nx
      have hsv := run_vals p (p.code.take k)
      rw [hs] at hsv
      have htl : (p.code.take k).length = k := by (simp; omega)
      have hto2 : i.to < s.t.held.length := by omega
      have hat := at_some (l := s.t.held) hma.1 (by omega)
      have htt := at_some (l := s.t.held) hto0 hto2
      rw [hs]
      refine H.skip ?_
      refine HQ.next ?_
      refine H.seq ?_
      refine H.block ?_
      refine H.seq ?_
      refine H.region ?_
      refine HO.v (V.move rfl) (ltn rfl) ?_
      refine HO.v (V.indexAddr (N := encIn) (ys := _) Try.underlying26 sz50 rfl rfl (by omega) (by omega) (by exact Has.ro (.head _))) (ltn rfl) ?_
      refine HO.v (V.loadEA (N := encIn) ag50 rfl (by exact .mk (Has.ro (.head _)) (hi) rfl)) (ltn rfl) ?_
      refine HO.alloc ze50 rfl (ltn rfl) ?_
      intro b13
      refine HO.v (V.assign rfl) (ltn rfl) ?_
      refine HO.store sz50 rfl rfl rfl rfl rfl (by exact .mk .here (by repeat constructor)) ?_
      refine HO.nil ?_
      refine HQ.next ?_
      refine H.seq ?_
      refine H.region ?_
      refine HO.v (V.load sc27 rfl (by exact .mk (.there (.there .here)) rfl)) (ltn rfl) ?_
      refine HO.v (V.fieldAddr (fs := #[]) fa50_2 rfl) (ltn rfl) ?_
      refine HO.v (V.load sc3 rfl (by exact .mk .here rfl)) (ltn rfl) ?_
      refine HO.v (V.indexAddr (N := (encI .i64)) (ys := _) Try.underlying27 sz3 rfl rfl (by omega) (by omega) (by exact Has.own (.there (.there (.there .here))))) (ltn rfl) ?_
      refine HO.v (V.loadE (N := (encI .i64)) sc3 rfl (by exact .mk (Has.own (.there (.there (.there .here)))) (hat) rfl)) (ltn rfl) ?_
      refine HO.v (V.assign rfl) (ltn rfl) ?_
      refine HO.v (V.assign rfl) (ltn rfl) ?_
      refine HO.nil ?_
      refine HQ.next ?_
      refine H.cut (σ := Unit) (fun _ => [(1, .pointer (some ⟨b1, 0, none⟩)), (6, .pointer (some ⟨b6, 0, none⟩)), (9, .map (some b41)), (10, .map (some b42)), (11, .func (.func 14) #[] #[.pointer (some ⟨b6, 0, none⟩)]), (45, .slice A p.code.length n), (46, .int .i64 ((p.code.length : Nat) : Int)), (2, .slice Av s.vals.length cv), (3, .slice Af s.firsts.length cf), (4, .slice Ac s.code.length cc), (5, .slice none 0 0), (8, .int .i64 (reckon s.t k i).2.2.next), (13, .pointer (some ⟨b13, 0, none⟩)), (14, .int .i64 (reckon s.t k i).1), (15, .int .i64 (reckon s.t k i).2.1), (47, .int .i64 ((k : Nat) : Int))]) (fun _ => [cellsCh b1 29 [.int .i64 p.ins, .int .i64 p.regs, .slice A p.code.length n, .slice Bo p.outs.length m], cellsCh b6 27 [.slice (some ⟨b24, 0, none⟩) s.t.held.length p.regs.toNat], rowE (encI .i64) 3 (some ⟨b24, 0, none⟩) p.regs.toNat s.t.held, lawMap b41 (reckon s.t k i).2.2.known, lawMap b42 (reckon s.t k i).2.2.first, rowE (encI .i64) 3 Av cv s.vals, rowE (encI .i64) 3 Af cf s.firsts, rowE encIn 50 Ac cc s.code, cellsCh b13 50 [.int .i64 i.op, .int .i64 i.to, .int .i64 i.a, .int .i64 i.b, .int .i64 i.c]]) (fun _ => True) ?_ ?_
      · skip
        refine H.seq ?_
        refine H.region ?_
        refine HO.v (V.fieldAddr (fs := #[]) fa50_0 rfl) (ltn rfl) ?_
        refine HO.v (V.load sc3 rfl (by exact .mk .here rfl)) (ltn rfl) ?_
        refine HO.v (V.neqI rfl rfl) (ltn rfl) ?_
        refine HO.nil ?_
        refine HQ.next ?_
        refine H.condB rfl (fun h59 => ?_) (fun h59 => ?_)
        · skip
          try simp only [decide_eq_true_eq, decide_eq_false_iff_not, Bool.not_eq_true', Bool.not_eq_false'] at h59
          refine H.seq ?_
          refine H.drawsP [cellsCh b6 27 [.slice _ _ _], rowE (encI .i64) 3 (some ⟨b24, 0, none⟩) _ _, cellsCh b13 _ _] [11] [[], [0], [], [], [3], [2, 4], [5], [], [7], [1, 6, 8], [], [10, 9, 0, 1, 2, 3, 4, 5, 6, 7, 8, 9, 10]] (.take 0 (.take 1 (.take 2 (.take 3 (.take 4 (.take 5 (.take 6 (.take 7 (.take 8 (.take 9 (.one 10 (.one 11 .done)))))))))))) (.cons (by exact (.tail _ (.tail _ (.head _)))) (.cons (by exact (.tail _ (.tail _ (.tail _ (.head _))))) (.cons (by exact (.head _)) (.nil)))) (by kernel_rfl) (by kernel_rfl) (by kernel_rfl) (by kernel_rfl) (by kernel_rfl) ?_
          refine HP.take (i := 0) rfl rfl (ltn rfl) (gives_of want_none (V.fieldAddr (fs := #[]) fa50_0 rfl)) (.cons (by exact (.tail _ (.tail _ (.head _)))) (.cons (by exact (.tail _ (.tail _ (.tail _ (.head _))))) (.cons (by exact (.head _)) (Sub.nil)))) ?_
          refine HP.take (i := 1) rfl rfl (ltn rfl) (gives_of want_none (V.load sc3 rfl (by exact .mk (.there (.there .here)) rfl))) (.cons (by exact (.tail _ (.tail _ (.head _)))) (.cons (by exact (.tail _ (.tail _ (.tail _ (.head _))))) (.cons (by exact (.head _)) (Sub.nil)))) ?_
          refine HP.take (i := 2) rfl rfl (ltn rfl) (gives_of want_none (V.load sc27 rfl (by exact .mk .here rfl))) (.cons (by exact (.tail _ (.tail _ (.head _)))) (.cons (by exact (.tail _ (.tail _ (.tail _ (.head _))))) (.cons (by exact (.head _)) (Sub.nil)))) ?_
          refine HP.take (i := 3) rfl rfl (ltn rfl) (gives_of want_none (V.fieldAddr (fs := #[]) fa50_2 rfl)) (.cons (by exact (.tail _ (.tail _ (.head _)))) (.cons (by exact (.tail _ (.tail _ (.tail _ (.head _))))) (.cons (by exact (.head _)) (Sub.nil)))) ?_
          refine HP.take (i := 4) rfl rfl (ltn rfl) (gives_of want_none (V.load sc3 rfl (by exact .mk (.there (.there .here)) rfl))) (.cons (by exact (.tail _ (.tail _ (.head _)))) (.cons (by exact (.tail _ (.tail _ (.tail _ (.head _))))) (.cons (by exact (.head _)) (Sub.nil)))) ?_
          refine HP.take (i := 5) rfl rfl (ltn rfl) (gives_of want_none (V.indexAddr (N := (encI .i64)) (ys := _) Try.underlying27 sz3 rfl rfl (by omega) (by omega) (by exact Has.own (.there .here)))) (.cons (by exact (.tail _ (.tail _ (.head _)))) (.cons (by exact (.tail _ (.tail _ (.tail _ (.head _))))) (.cons (by exact (.head _)) (Sub.nil)))) ?_
          refine HP.take (i := 6) rfl rfl (ltn rfl) (gives_of want_none (V.loadE (N := (encI .i64)) sc3 rfl (by exact .mk (Has.own (.there .here)) (hat) rfl))) (.cons (by exact (.tail _ (.tail _ (.head _)))) (.cons (by exact (.tail _ (.tail _ (.tail _ (.head _))))) (.cons (by exact (.head _)) (Sub.nil)))) ?_
          refine HP.take (i := 7) rfl rfl (ltn rfl) (gives_of want_none (V.fieldAddr (fs := #[]) fa50_4 rfl)) (.cons (by exact (.tail _ (.tail _ (.head _)))) (.cons (by exact (.tail _ (.tail _ (.tail _ (.head _))))) (.cons (by exact (.head _)) (Sub.nil)))) ?_
          refine HP.take (i := 8) rfl rfl (ltn rfl) (gives_of want_none (V.load sc3 rfl (by exact .mk (.there (.there .here)) rfl))) (.cons (by exact (.tail _ (.tail _ (.head _)))) (.cons (by exact (.tail _ (.tail _ (.tail _ (.head _))))) (.cons (by exact (.head _)) (Sub.nil)))) ?_
          refine HP.take (i := 9) rfl rfl (ltn rfl) (gives_of want_none (V.build ze55 pl55 rfl (.cons rfl (.cons rfl (.cons rfl (.cons rfl (.nil))))) (.cons rfl rfl rfl (by repeat constructor) (.cons rfl rfl rfl (by repeat constructor) (.cons rfl rfl rfl (by repeat constructor) (.cons rfl rfl rfl (by repeat constructor) (.nil))))))) (.cons (by exact (.tail _ (.tail _ (.head _)))) (.cons (by exact (.tail _ (.tail _ (.tail _ (.head _))))) (.cons (by exact (.head _)) (Sub.nil)))) ?_
          refine HP.one (i := 10) rfl ?_
          intro fuel listed hno haf hrp hpk hfs
          refine HO.alloc ze55 rfl (ltn rfl) ?_
          intro b16
          refine HO.nil ?_
          refine HQ.nxt hno haf hrp hpk hfs (.cons (by exact (.tail _ (.tail _ (.tail _ (.head _))))) (.cons (by exact (.tail _ (.tail _ (.tail _ (.tail _ (.head _)))))) (.cons (by exact (.tail _ (.head _))) (Sub.nil)))) ?_
          refine HP.one (i := 11) rfl ?_
          intro fuel listed hno haf hrp hpk hfs
          refine HO.store sz55 rfl rfl rfl rfl rfl (by exact .mk .here (by repeat constructor)) ?_
          refine HO.nil ?_
          refine HQ.nxtF (m := 11) hno haf hrp hpk hfs (by decide) (by kernel_rfl) rfl ?_
          refine HP.done ?_
          refine HQ.next ?_
          refine H.cut (σ := Unit) (fun _ => [(1, .pointer (some ⟨b1, 0, none⟩)), (6, .pointer (some ⟨b6, 0, none⟩)), (9, .map (some b41)), (10, .map (some b42)), (11, .func (.func 14) #[] #[.pointer (some ⟨b6, 0, none⟩)]), (45, .slice A p.code.length n), (46, .int .i64 ((p.code.length : Nat) : Int)), (2, .slice Av s.vals.length cv), (3, .slice Af s.firsts.length cf), (4, .slice Ac s.code.length cc), (5, .slice none 0 0), (8, .int .i64 s.t.next), (12, .int .i64 ((k : Nat) : Int)), (13, .pointer (some ⟨b13, 0, none⟩)), (16, .pointer (some ⟨b16, 0, none⟩)), (47, .int .i64 ((k : Nat) : Int))]) (fun _ => [cellsCh b1 29 [.int .i64 p.ins, .int .i64 p.regs, .slice A p.code.length n, .slice Bo p.outs.length m], cellsCh b6 27 [.slice (some ⟨b24, 0, none⟩) s.t.held.length p.regs.toNat], rowE (encI .i64) 3 (some ⟨b24, 0, none⟩) p.regs.toNat s.t.held, lawMap b41 s.t.known, lawMap b42 s.t.first, rowE (encI .i64) 3 Av cv s.vals, rowE (encI .i64) 3 Af cf s.firsts, rowE encIn 50 Ac cc s.code, cellsCh b13 50 [.int .i64 i.op, .int .i64 i.to, .int .i64 i.a, .int .i64 i.b, .int .i64 i.c], cellsCh b16 55 [.int .i64 (keyed s.t.held i).1, .int .i64 (keyed s.t.held i).2.1, .int .i64 (keyed s.t.held i).2.2.1, .int .i64 (keyed s.t.held i).2.2.2]]) (fun _ => True) ?_ ?_
          · skip
            refine H.seq ?_
            refine H.region ?_
            refine HO.v (V.fieldAddr (fs := #[]) fa50_0 rfl) (ltn rfl) ?_
            refine HO.v (V.load sc3 rfl (by exact .mk (.there .here) rfl)) (ltn rfl) ?_
            refine HO.v (V.eqlI rfl rfl) (ltn rfl) ?_
            refine HO.v (V.move rfl) (ltn rfl) ?_
            refine HO.part (t := 73) rfl (fun g73 => ?_) (fun g73 => ?_)
            · skip
              try simp only [decide_eq_true_eq, decide_eq_false_iff_not, Bool.not_eq_true', Bool.not_eq_false'] at g73
              refine HO.gskip rfl rfl rfl rfl (ltn rfl) ?_
              refine HO.gskip rfl rfl rfl rfl (ltn rfl) ?_
              refine HO.gskip rfl rfl rfl rfl (ltn rfl) ?_
              refine HO.v (V.pickT rfl rfl) (ltn rfl) ?_
              refine HO.nil ?_
              refine HQ.next ?_
              refine H.condT rfl rfl ?_
              refine H.seq ?_
              refine H.region ?_
              have hbb := may_b hmi (by omega)
              have hbt := at_some (l := s.t.held) hbb.1 (by omega)
              refine HO.v (V.load sc27 rfl (by exact .mk (.there (.there (.there .here))) rfl)) (ltn rfl) ?_
              refine HO.v (V.fieldAddr (fs := #[]) fa50_3 rfl) (ltn rfl) ?_
              refine HO.v (V.load sc3 rfl (by exact .mk (.there .here) rfl)) (ltn rfl) ?_
              refine HO.v (V.indexAddr (N := (encI .i64)) (ys := _) Try.underlying27 sz3 rfl rfl (by omega) (by omega) (by exact Has.own (.there (.there (.there (.there .here)))))) (ltn rfl) ?_
              refine HO.v (V.loadE (N := (encI .i64)) sc3 rfl (by exact .mk (Has.own (.there (.there (.there (.there .here))))) (hbt) rfl)) (ltn rfl) ?_
              refine HO.v (V.fieldAddr (fs := #[]) fa55_2 rfl) (ltn rfl) ?_
              refine HO.store sz3 rfl rfl rfl rfl rfl (by exact .mk .here (by repeat constructor)) ?_
              refine HO.nil ?_
              refine HQ.next ?_
              refine H.seq ?_
              refine H.region ?_
              refine HO.v (V.fieldAddr (fs := #[]) fa50_0 rfl) (ltn rfl) ?_
              refine HO.v (V.load sc3 rfl (by exact .mk (.there .here) rfl)) (ltn rfl) ?_
              refine HO.v (V.eqlI rfl rfl) (ltn rfl) ?_
              refine HO.v (V.move rfl) (ltn rfl) ?_
              refine HO.part (t := 87) rfl (fun g87 => ?_) (fun g87 => ?_)
              · skip
                try simp only [decide_eq_true_eq, decide_eq_false_iff_not, Bool.not_eq_true', Bool.not_eq_false'] at g87
                refine HO.gdo rfl rfl rfl rfl ?_
                refine HO.v (V.fieldAddr (fs := #[]) fa55_1 rfl) (ltn rfl) ?_
                refine HO.gdo rfl rfl rfl rfl ?_
                refine HO.v (V.load sc3 rfl (by exact .mk .here rfl)) (ltn rfl) ?_
                refine HO.gdo rfl rfl rfl rfl ?_
                refine HO.v (V.fieldAddr (fs := #[]) fa55_2 rfl) (ltn rfl) ?_
                refine HO.gdo rfl rfl rfl rfl ?_
                refine HO.v (V.load sc3 rfl (by exact .mk .here rfl)) (ltn rfl) ?_
                refine HO.gdo rfl rfl rfl rfl ?_
                refine HO.v (V.gtr rfl rfl) (ltn rfl) ?_
                refine HO.v (V.pickT rfl rfl) (ltn rfl) ?_
                refine HO.nil ?_
                refine HQ.next ?_
                refine H.condB rfl (fun h93 => ?_) (fun h93 => ?_)
                · skip
                  try simp only [decide_eq_true_eq, decide_eq_false_iff_not, Bool.not_eq_true', Bool.not_eq_false'] at h93
                  refine H.region ?_
                  refine HO.v (V.fieldAddr (fs := #[]) fa55_2 rfl) (ltn rfl) ?_
                  refine HO.v (V.load sc3 rfl (by exact .mk .here rfl)) (ltn rfl) ?_
                  refine HO.v (V.fieldAddr (fs := #[]) fa55_1 rfl) (ltn rfl) ?_
                  refine HO.v (V.load sc3 rfl (by exact .mk .here rfl)) (ltn rfl) ?_
                  refine HO.v (V.fieldAddr (fs := #[]) fa55_1 rfl) (ltn rfl) ?_
                  refine HO.store sz3 rfl rfl rfl rfl rfl (by exact .mk .here (by repeat constructor)) ?_
                  refine HO.v (V.fieldAddr (fs := #[]) fa55_2 rfl) (ltn rfl) ?_
                  refine HO.store sz3 rfl rfl rfl rfl rfl (by exact .mk .here (by repeat constructor)) ?_
                  refine HO.nil ?_
                  rw [show (keyed s.t.held i) = (i.op, at_ s.t.held i.b, at_ s.t.held i.a, i.c) by unfold keyed; rw [if_pos (by omega), if_pos ⟨by omega, by omega⟩]]
                  refine HQ.cut (()) ?_ ?_
                  · trivial
                  · skip
                    exact HQ.fits (.cons rfl (.cons rfl (.cons rfl (.cons rfl (.cons rfl (.cons rfl (.cons rfl (.cons rfl (.cons rfl (.cons rfl (.cons rfl (.cons rfl (.cons rfl (.cons rfl (.cons rfl (.cons rfl (.nil))))))))))))))))) (by exact Rems.cons (by exact (.there (.there .here))) (Rems.cons (by exact (.there (.there .here))) (Rems.cons (by exact (.there (.there .here))) (Rems.cons (by exact (.there (.there .here))) (Rems.cons (by exact (.there (.there .here))) (Rems.cons (by exact (.there (.there .here))) (Rems.cons (by exact (.there (.there .here))) (Rems.cons (by exact (.there (.there .here))) (Rems.cons (by exact (.there .here)) (Rems.cons (by exact .here) (Rems.nil)))))))))))
                · skip
                  try simp only [decide_eq_true_eq, decide_eq_false_iff_not, Bool.not_eq_true', Bool.not_eq_false'] at h93
                  refine H.skip ?_
                  rw [show (keyed s.t.held i) = (i.op, at_ s.t.held i.a, at_ s.t.held i.b, i.c) by unfold keyed; rw [if_pos (by omega), if_neg (by omega)]]
                  refine HQ.cut (()) ?_ ?_
                  · trivial
                  · skip
                    exact HQ.fits (.cons rfl (.cons rfl (.cons rfl (.cons rfl (.cons rfl (.cons rfl (.cons rfl (.cons rfl (.cons rfl (.cons rfl (.cons rfl (.cons rfl (.cons rfl (.cons rfl (.cons rfl (.cons rfl (.nil))))))))))))))))) (by exact Rems.cons (by exact (.there (.there .here))) (Rems.cons (by exact (.there (.there .here))) (Rems.cons (by exact (.there (.there .here))) (Rems.cons (by exact (.there (.there .here))) (Rems.cons (by exact (.there (.there .here))) (Rems.cons (by exact (.there (.there .here))) (Rems.cons (by exact (.there (.there .here))) (Rems.cons (by exact (.there (.there .here))) (Rems.cons (by exact (.there .here)) (Rems.cons (by exact .here) (Rems.nil)))))))))))
              · skip
                try simp only [decide_eq_true_eq, decide_eq_false_iff_not, Bool.not_eq_true', Bool.not_eq_false'] at g87
                refine HO.gskip rfl rfl rfl rfl (ltn rfl) ?_
                refine HO.gskip rfl rfl rfl rfl (ltn rfl) ?_
                refine HO.gskip rfl rfl rfl rfl (ltn rfl) ?_
                refine HO.gskip rfl rfl rfl rfl (ltn rfl) ?_
                refine HO.gskip rfl rfl rfl rfl (ltn rfl) ?_
                refine HO.v (V.pickF rfl rfl) (ltn rfl) ?_
                refine HO.nil ?_
                refine HQ.next ?_
                refine H.condF rfl rfl ?_
                refine H.skip ?_
                rw [show (keyed s.t.held i) = (i.op, at_ s.t.held i.a, at_ s.t.held i.b, i.c) by unfold keyed; rw [if_pos (by omega), if_neg (by omega)]]
                refine HQ.cut (()) ?_ ?_
                · trivial
                · skip
                  exact HQ.fits (.cons rfl (.cons rfl (.cons rfl (.cons rfl (.cons rfl (.cons rfl (.cons rfl (.cons rfl (.cons rfl (.cons rfl (.cons rfl (.cons rfl (.cons rfl (.cons rfl (.cons rfl (.cons rfl (.nil))))))))))))))))) (by exact Rems.cons (by exact (.there (.there .here))) (Rems.cons (by exact (.there (.there .here))) (Rems.cons (by exact (.there (.there .here))) (Rems.cons (by exact (.there (.there .here))) (Rems.cons (by exact (.there (.there .here))) (Rems.cons (by exact (.there (.there .here))) (Rems.cons (by exact (.there (.there .here))) (Rems.cons (by exact (.there (.there .here))) (Rems.cons (by exact (.there .here)) (Rems.cons (by exact .here) (Rems.nil)))))))))))
            · skip
              try simp only [decide_eq_true_eq, decide_eq_false_iff_not, Bool.not_eq_true', Bool.not_eq_false'] at g73
              refine HO.gdo rfl rfl rfl rfl ?_
              refine HO.v (V.fieldAddr (fs := #[]) fa50_0 rfl) (ltn rfl) ?_
              refine HO.gdo rfl rfl rfl rfl ?_
              refine HO.v (V.load sc3 rfl (by exact .mk (.there .here) rfl)) (ltn rfl) ?_
              refine HO.gdo rfl rfl rfl rfl ?_
              refine HO.v (V.eqlI rfl rfl) (ltn rfl) ?_
              refine HO.v (V.pickF rfl rfl) (ltn rfl) ?_
              refine HO.nil ?_
              refine HQ.next ?_
              refine H.condB rfl (fun h77 => ?_) (fun h77 => ?_)
              · skip
                try simp only [decide_eq_true_eq, decide_eq_false_iff_not, Bool.not_eq_true', Bool.not_eq_false'] at h77
                refine H.seq ?_
                refine H.region ?_
                have hbb := may_b hmi (by omega)
                have hbt := at_some (l := s.t.held) hbb.1 (by omega)
                refine HO.v (V.load sc27 rfl (by exact .mk (.there (.there (.there .here))) rfl)) (ltn rfl) ?_
                refine HO.v (V.fieldAddr (fs := #[]) fa50_3 rfl) (ltn rfl) ?_
                refine HO.v (V.load sc3 rfl (by exact .mk (.there .here) rfl)) (ltn rfl) ?_
                refine HO.v (V.indexAddr (N := (encI .i64)) (ys := _) Try.underlying27 sz3 rfl rfl (by omega) (by omega) (by exact Has.own (.there (.there (.there (.there .here)))))) (ltn rfl) ?_
                refine HO.v (V.loadE (N := (encI .i64)) sc3 rfl (by exact .mk (Has.own (.there (.there (.there (.there .here))))) (hbt) rfl)) (ltn rfl) ?_
                refine HO.v (V.fieldAddr (fs := #[]) fa55_2 rfl) (ltn rfl) ?_
                refine HO.store sz3 rfl rfl rfl rfl rfl (by exact .mk .here (by repeat constructor)) ?_
                refine HO.nil ?_
                refine HQ.next ?_
                refine H.seq ?_
                refine H.region ?_
                refine HO.v (V.fieldAddr (fs := #[]) fa50_0 rfl) (ltn rfl) ?_
                refine HO.v (V.load sc3 rfl (by exact .mk (.there .here) rfl)) (ltn rfl) ?_
                refine HO.v (V.eqlI rfl rfl) (ltn rfl) ?_
                refine HO.v (V.move rfl) (ltn rfl) ?_
                refine HO.part (t := 87) rfl (fun g87 => ?_) (fun g87 => ?_)
                · skip
                  try simp only [decide_eq_true_eq, decide_eq_false_iff_not, Bool.not_eq_true', Bool.not_eq_false'] at g87
                  refine HO.gdo rfl rfl rfl rfl ?_
                  refine HO.v (V.fieldAddr (fs := #[]) fa55_1 rfl) (ltn rfl) ?_
                  refine HO.gdo rfl rfl rfl rfl ?_
                  refine HO.v (V.load sc3 rfl (by exact .mk .here rfl)) (ltn rfl) ?_
                  refine HO.gdo rfl rfl rfl rfl ?_
                  refine HO.v (V.fieldAddr (fs := #[]) fa55_2 rfl) (ltn rfl) ?_
                  refine HO.gdo rfl rfl rfl rfl ?_
                  refine HO.v (V.load sc3 rfl (by exact .mk .here rfl)) (ltn rfl) ?_
                  refine HO.gdo rfl rfl rfl rfl ?_
                  refine HO.v (V.gtr rfl rfl) (ltn rfl) ?_
                  refine HO.v (V.pickT rfl rfl) (ltn rfl) ?_
                  refine HO.nil ?_
                  refine HQ.next ?_
                  refine H.condB rfl (fun h93 => ?_) (fun h93 => ?_)
                  · skip
                    try simp only [decide_eq_true_eq, decide_eq_false_iff_not, Bool.not_eq_true', Bool.not_eq_false'] at h93
                    refine H.region ?_
                    refine HO.v (V.fieldAddr (fs := #[]) fa55_2 rfl) (ltn rfl) ?_
                    refine HO.v (V.load sc3 rfl (by exact .mk .here rfl)) (ltn rfl) ?_
                    refine HO.v (V.fieldAddr (fs := #[]) fa55_1 rfl) (ltn rfl) ?_
                    refine HO.v (V.load sc3 rfl (by exact .mk .here rfl)) (ltn rfl) ?_
                    refine HO.v (V.fieldAddr (fs := #[]) fa55_1 rfl) (ltn rfl) ?_
                    refine HO.store sz3 rfl rfl rfl rfl rfl (by exact .mk .here (by repeat constructor)) ?_
                    refine HO.v (V.fieldAddr (fs := #[]) fa55_2 rfl) (ltn rfl) ?_
                    refine HO.store sz3 rfl rfl rfl rfl rfl (by exact .mk .here (by repeat constructor)) ?_
                    refine HO.nil ?_
                    rw [show (keyed s.t.held i) = (i.op, at_ s.t.held i.b, at_ s.t.held i.a, i.c) by unfold keyed; rw [if_pos (by omega), if_pos ⟨by omega, by omega⟩]]
                    refine HQ.cut (()) ?_ ?_
                    · trivial
                    · skip
                      exact HQ.fits (.cons rfl (.cons rfl (.cons rfl (.cons rfl (.cons rfl (.cons rfl (.cons rfl (.cons rfl (.cons rfl (.cons rfl (.cons rfl (.cons rfl (.cons rfl (.cons rfl (.cons rfl (.cons rfl (.nil))))))))))))))))) (by exact Rems.cons (by exact (.there (.there .here))) (Rems.cons (by exact (.there (.there .here))) (Rems.cons (by exact (.there (.there .here))) (Rems.cons (by exact (.there (.there .here))) (Rems.cons (by exact (.there (.there .here))) (Rems.cons (by exact (.there (.there .here))) (Rems.cons (by exact (.there (.there .here))) (Rems.cons (by exact (.there (.there .here))) (Rems.cons (by exact (.there .here)) (Rems.cons (by exact .here) (Rems.nil)))))))))))
                  · skip
                    try simp only [decide_eq_true_eq, decide_eq_false_iff_not, Bool.not_eq_true', Bool.not_eq_false'] at h93
                    refine H.skip ?_
                    rw [show (keyed s.t.held i) = (i.op, at_ s.t.held i.a, at_ s.t.held i.b, i.c) by unfold keyed; rw [if_pos (by omega), if_neg (by omega)]]
                    refine HQ.cut (()) ?_ ?_
                    · trivial
                    · skip
                      exact HQ.fits (.cons rfl (.cons rfl (.cons rfl (.cons rfl (.cons rfl (.cons rfl (.cons rfl (.cons rfl (.cons rfl (.cons rfl (.cons rfl (.cons rfl (.cons rfl (.cons rfl (.cons rfl (.cons rfl (.nil))))))))))))))))) (by exact Rems.cons (by exact (.there (.there .here))) (Rems.cons (by exact (.there (.there .here))) (Rems.cons (by exact (.there (.there .here))) (Rems.cons (by exact (.there (.there .here))) (Rems.cons (by exact (.there (.there .here))) (Rems.cons (by exact (.there (.there .here))) (Rems.cons (by exact (.there (.there .here))) (Rems.cons (by exact (.there (.there .here))) (Rems.cons (by exact (.there .here)) (Rems.cons (by exact .here) (Rems.nil)))))))))))
                · skip
                  try simp only [decide_eq_true_eq, decide_eq_false_iff_not, Bool.not_eq_true', Bool.not_eq_false'] at g87
                  refine HO.gskip rfl rfl rfl rfl (ltn rfl) ?_
                  refine HO.gskip rfl rfl rfl rfl (ltn rfl) ?_
                  refine HO.gskip rfl rfl rfl rfl (ltn rfl) ?_
                  refine HO.gskip rfl rfl rfl rfl (ltn rfl) ?_
                  refine HO.gskip rfl rfl rfl rfl (ltn rfl) ?_
                  refine HO.v (V.pickF rfl rfl) (ltn rfl) ?_
                  refine HO.nil ?_
                  refine HQ.next ?_
                  refine H.condF rfl rfl ?_
                  refine H.skip ?_
                  rw [show (keyed s.t.held i) = (i.op, at_ s.t.held i.a, at_ s.t.held i.b, i.c) by unfold keyed; rw [if_pos (by omega), if_neg (by omega)]]
                  refine HQ.cut (()) ?_ ?_
                  · trivial
                  · skip
                    exact HQ.fits (.cons rfl (.cons rfl (.cons rfl (.cons rfl (.cons rfl (.cons rfl (.cons rfl (.cons rfl (.cons rfl (.cons rfl (.cons rfl (.cons rfl (.cons rfl (.cons rfl (.cons rfl (.cons rfl (.nil))))))))))))))))) (by exact Rems.cons (by exact (.there (.there .here))) (Rems.cons (by exact (.there (.there .here))) (Rems.cons (by exact (.there (.there .here))) (Rems.cons (by exact (.there (.there .here))) (Rems.cons (by exact (.there (.there .here))) (Rems.cons (by exact (.there (.there .here))) (Rems.cons (by exact (.there (.there .here))) (Rems.cons (by exact (.there (.there .here))) (Rems.cons (by exact (.there .here)) (Rems.cons (by exact .here) (Rems.nil)))))))))))
              · skip
                try simp only [decide_eq_true_eq, decide_eq_false_iff_not, Bool.not_eq_true', Bool.not_eq_false'] at h77
                refine H.skip ?_
                rw [show (keyed s.t.held i) = (i.op, at_ s.t.held i.a, -1, i.c) by unfold keyed; rw [if_neg (by omega)]]
                refine HQ.cut (()) ?_ ?_
                · trivial
                · skip
                  exact HQ.fits (.cons rfl (.cons rfl (.cons rfl (.cons rfl (.cons rfl (.cons rfl (.cons rfl (.cons rfl (.cons rfl (.cons rfl (.cons rfl (.cons rfl (.cons rfl (.cons rfl (.cons rfl (.cons rfl (.nil))))))))))))))))) (by exact Rems.cons (by exact (.there (.there .here))) (Rems.cons (by exact (.there (.there .here))) (Rems.cons (by exact (.there (.there .here))) (Rems.cons (by exact (.there (.there .here))) (Rems.cons (by exact (.there (.there .here))) (Rems.cons (by exact (.there (.there .here))) (Rems.cons (by exact (.there (.there .here))) (Rems.cons (by exact (.there (.there .here))) (Rems.cons (by exact (.there .here)) (Rems.cons (by exact .here) (Rems.nil)))))))))))
          intro _ _
          refine H.seq ?_
          refine H.seq ?_
          refine H.region ?_
          refine HO.v (V.move rfl) (ltn rfl) ?_
          refine HO.v (V.loadA ag55 rfl (by exact .mk (.there (.there (.there (.there (.there (.there (.there (.there (.there .here))))))))) (by repeat constructor))) (ltn rfl) ?_
          refine HO.v (V.lookup2 (K := keyL) (vf := vI) (v0 := 0) (k := (keyed s.t.held i)) Try.underlying52 ze3 rfl rfl (by exact keyed_key hf (by omega) hmi) (by exact HasM.own (.there (.there (.there .here))))) (ltn rfl) ?_
          refine HO.v (V.move rfl) (ltn rfl) ?_
          refine HO.v (V.extract rfl rfl) (ltn rfl) ?_
          refine HO.v (V.extract rfl rfl) (ltn rfl) ?_
          refine HO.v (V.assign rfl) (ltn rfl) ?_
          refine HO.v (V.assign rfl) (ltn rfl) ?_
          refine HO.nil ?_
          refine HQ.keep (.cons (t := 1) rfl (.cons (t := 2) rfl (.cons (t := 3) rfl (.cons (t := 4) rfl (.cons (t := 5) rfl (.cons (t := 6) rfl (.cons (t := 8) rfl (.cons (t := 9) rfl (.cons (t := 10) rfl (.cons (t := 11) rfl (.cons (t := 12) rfl (.cons (t := 13) rfl (.cons (t := 16) rfl (.cons (t := 18) rfl (.cons (t := 45) rfl (.cons (t := 46) rfl (.cons (t := 47) rfl (.cons (t := 100) rfl (.cons (t := 101) rfl (.cons (t := 102) rfl (.cons (t := 103) rfl (.cons (t := 104) rfl (.cons (t := 105) rfl (.nil)))))))))))))))))))))))) ?_
          refine HQ.next ?_
          refine H.seq ?_
          refine H.region ?_
          refine HO.v (V.move rfl) (ltn rfl) ?_
          refine HO.v (V.not rfl) (ltn rfl) ?_
          refine HO.nil ?_
          refine HQ.next ?_
          refine H.condB rfl (fun h107 => ?_) (fun h107 => ?_)
          · skip
            try simp only [decide_eq_true_eq, decide_eq_false_iff_not, Bool.not_eq_true', Bool.not_eq_false'] at h107
            refine H.seq ?_
            refine H.drawsP [cellsCh b16 _ _] [] [[], [], [], [], [], [], [0, 1, 4, 0, 1, 4], [2, 3, 5, 6, 0, 1, 2, 3, 4, 5, 6]] (.take 0 (.take 1 (.take 2 (.take 3 (.take 4 (.take 5 (.one 6 (.one 7 .done)))))))) (.cons (by exact (.tail _ (.tail _ (.tail _ (.tail _ (.tail _ (.tail _ (.tail _ (.tail _ (.tail _ (.head _))))))))))) (.nil)) (by kernel_rfl) (by kernel_rfl) (by kernel_rfl) (by kernel_rfl) (by kernel_rfl) ?_
            refine HP.take (i := 0) rfl rfl (ltn rfl) (gives_of want_none (V.move rfl)) (.cons (by exact (.tail _ (.tail _ (.tail _ (.tail _ (.tail _ (.tail _ (.tail _ (.tail _ (.tail _ (.head _))))))))))) (Sub.nil)) ?_
            refine HP.take (i := 1) rfl rfl (ltn rfl) (gives_of want_none (V.loadA ag55 rfl (by exact .mk .here (by repeat constructor)))) (.cons (by exact (.tail _ (.tail _ (.tail _ (.tail _ (.tail _ (.tail _ (.tail _ (.tail _ (.tail _ (.head _))))))))))) (Sub.nil)) ?_
            refine HP.take (i := 2) rfl rfl (ltn rfl) (gives_of want_none (V.move rfl)) (.cons (by exact (.tail _ (.tail _ (.tail _ (.tail _ (.tail _ (.tail _ (.tail _ (.tail _ (.tail _ (.head _))))))))))) (Sub.nil)) ?_
            refine HP.take (i := 3) rfl rfl (ltn rfl) (gives_of want_none (V.loadA ag55 rfl (by exact .mk .here (by repeat constructor)))) (.cons (by exact (.tail _ (.tail _ (.tail _ (.tail _ (.tail _ (.tail _ (.tail _ (.tail _ (.tail _ (.head _))))))))))) (Sub.nil)) ?_
            refine HP.take (i := 4) rfl rfl (ltn rfl) (gives_of want_none (V.move rfl)) (.cons (by exact (.tail _ (.tail _ (.tail _ (.tail _ (.tail _ (.tail _ (.tail _ (.tail _ (.tail _ (.head _))))))))))) (Sub.nil)) ?_
            refine HP.take (i := 5) rfl rfl (ltn rfl) (gives_of want_none (V.move rfl)) (.cons (by exact (.tail _ (.tail _ (.tail _ (.tail _ (.tail _ (.tail _ (.tail _ (.tail _ (.tail _ (.head _))))))))))) (Sub.nil)) ?_
            refine HP.one (i := 6) rfl ?_
            intro fuel listed hno haf hrp hpk hfs
            refine HO.mapUpdate (K := keyL) (vf := vI) (k := (keyed s.t.held i)) (v := s.t.next) Try.underlying52 rfl rfl rfl (by exact keyed_key hf (by omega) hmi) (by exact (.there (.there (.there .here)))) ?_
            refine HO.nil ?_
            refine HQ.nxt hno haf hrp hpk hfs (.cons (by exact (.tail _ (.tail _ (.tail _ (.tail _ (.tail _ (.tail _ (.tail _ (.tail _ (.tail _ (.head _))))))))))) (Sub.nil)) ?_
            refine HP.one (i := 7) rfl ?_
            intro fuel listed hno haf hrp hpk hfs
            refine HO.mapUpdate (K := keyL) (vf := vI) (k := (keyed s.t.held i)) (v := (k : Int)) Try.underlying52 rfl rfl rfl (by exact keyed_key hf (by omega) hmi) (by exact (.there (.there (.there (.there .here))))) ?_
            refine HO.nil ?_
            refine HQ.nxt hno haf hrp hpk hfs (.cons (by exact (.tail _ (.tail _ (.tail _ (.tail _ (.tail _ (.tail _ (.tail _ (.tail _ (.tail _ (.head _))))))))))) (Sub.nil)) ?_
            refine HP.done ?_
            refine HQ.next ?_
            refine H.region ?_
            refine HO.v (V.move rfl) (ltn rfl) ?_
            refine HO.v (V.add rfl rfl (by omega)) (ltn rfl) ?_
            refine HO.v (V.assign rfl) (ltn rfl) ?_
            refine HO.nil ?_
            refine HQ.next ?_
            refine H.drawsP [cellsCh b16 _ _, lawMap b41 _, lawMap b42 _] [] [[], [], [0, 1], [], [], [3, 4], [2, 0, 1, 2], [5, 6, 0, 1, 2, 3, 4, 5, 6]] (.take 0 (.take 1 (.take 2 (.take 3 (.take 4 (.take 5 (.take 6 (.take 7 .done)))))))) (.cons (by exact (.tail _ (.tail _ (.tail _ (.tail _ (.tail _ (.tail _ (.tail _ (.tail _ (.tail _ (.head _))))))))))) (.cons (by exact (.tail _ (.head _))) (.cons (by exact (.head _)) (.nil)))) (by kernel_rfl) (by kernel_rfl) (by kernel_rfl) (by kernel_rfl) (by kernel_rfl) ?_
            refine HP.take (i := 0) rfl rfl (ltn rfl) (gives_of want_none (V.move rfl)) (.cons (by exact (.tail _ (.tail _ (.tail _ (.tail _ (.tail _ (.tail _ (.tail _ (.tail _ (.tail _ (.head _))))))))))) (.cons (by exact (.tail _ (.head _))) (.cons (by exact (.head _)) (Sub.nil)))) ?_
            refine HP.take (i := 1) rfl rfl (ltn rfl) (gives_of want_none (V.loadA ag55 rfl (by exact .mk .here (by repeat constructor)))) (.cons (by exact (.tail _ (.tail _ (.tail _ (.tail _ (.tail _ (.tail _ (.tail _ (.tail _ (.tail _ (.head _))))))))))) (.cons (by exact (.tail _ (.head _))) (.cons (by exact (.head _)) (Sub.nil)))) ?_
            refine HP.take (i := 2) rfl rfl (ltn rfl) (gives_of want_none (V.lookup (K := keyL) (vf := vI) (v0 := 0) (k := (keyed s.t.held i)) Try.underlying52 ze3 rfl rfl (by exact keyed_key hf (by omega) hmi) (by exact HasM.own (.there .here)))) (.cons (by exact (.tail _ (.tail _ (.tail _ (.tail _ (.tail _ (.tail _ (.tail _ (.tail _ (.tail _ (.head _))))))))))) (.cons (by exact (.tail _ (.head _))) (.cons (by exact (.head _)) (Sub.nil)))) ?_
            refine HP.take (i := 3) rfl rfl (ltn rfl) (gives_of want_none (V.move rfl)) (.cons (by exact (.tail _ (.tail _ (.tail _ (.tail _ (.tail _ (.tail _ (.tail _ (.tail _ (.tail _ (.head _))))))))))) (.cons (by exact (.tail _ (.head _))) (.cons (by exact (.head _)) (Sub.nil)))) ?_
            refine HP.take (i := 4) rfl rfl (ltn rfl) (gives_of want_none (V.loadA ag55 rfl (by exact .mk .here (by repeat constructor)))) (.cons (by exact (.tail _ (.tail _ (.tail _ (.tail _ (.tail _ (.tail _ (.tail _ (.tail _ (.tail _ (.head _))))))))))) (.cons (by exact (.tail _ (.head _))) (.cons (by exact (.head _)) (Sub.nil)))) ?_
            refine HP.take (i := 5) rfl rfl (ltn rfl) (gives_of want_none (V.lookup (K := keyL) (vf := vI) (v0 := 0) (k := (keyed s.t.held i)) Try.underlying52 ze3 rfl rfl (by exact keyed_key hf (by omega) hmi) (by exact HasM.own (.there (.there .here))))) (.cons (by exact (.tail _ (.tail _ (.tail _ (.tail _ (.tail _ (.tail _ (.tail _ (.tail _ (.tail _ (.head _))))))))))) (.cons (by exact (.tail _ (.head _))) (.cons (by exact (.head _)) (Sub.nil)))) ?_
            refine HP.take (i := 6) rfl rfl (ltn rfl) (gives_of want_none (V.assign rfl)) (.cons (by exact (.tail _ (.tail _ (.tail _ (.tail _ (.tail _ (.tail _ (.tail _ (.tail _ (.tail _ (.head _))))))))))) (.cons (by exact (.tail _ (.head _))) (.cons (by exact (.head _)) (Sub.nil)))) ?_
            refine HP.take (i := 7) rfl rfl (ltn rfl) (gives_of want_none (V.assign rfl)) (.cons (by exact (.tail _ (.tail _ (.tail _ (.tail _ (.tail _ (.tail _ (.tail _ (.tail _ (.tail _ (.head _))))))))))) (.cons (by exact (.tail _ (.head _))) (.cons (by exact (.head _)) (Sub.nil)))) ?_
            refine HP.done ?_
            rw [show (reckon s.t k i) = (s.t.next, (k : Int), ⟨s.t.held, mput s.t.known (keyed s.t.held i) s.t.next, mput s.t.first (keyed s.t.held i) k, s.t.next + 1⟩) by unfold reckon; rw [if_neg h59]; rw [show mget s.t.known (keyed s.t.held i) = none by simpa using h107]]
            simp only [mget_mput, if_true, Option.getD_some]
            refine HQ.cut (()) ?_ ?_
            · trivial
            · skip
              exact HQ.fits (.cons rfl (.cons rfl (.cons rfl (.cons rfl (.cons rfl (.cons rfl (.cons rfl (.cons rfl (.cons rfl (.cons rfl (.cons rfl (.cons rfl (.cons rfl (.cons rfl (.cons rfl (.cons rfl (.nil))))))))))))))))) (by exact Rems.cons (by exact (.there (.there .here))) (Rems.cons (by exact (.there (.there .here))) (Rems.cons (by exact (.there (.there .here))) (Rems.cons (by exact (.there .here)) (Rems.cons (by exact .here) (Rems.cons (by exact .here) (Rems.cons (by exact .here) (Rems.cons (by exact .here) (Rems.cons (by exact .here) (Rems.nil))))))))))
          · skip
            try simp only [decide_eq_true_eq, decide_eq_false_iff_not, Bool.not_eq_true', Bool.not_eq_false'] at h107
            refine H.skip ?_
            refine HQ.next ?_
            refine H.drawsP [cellsCh b16 _ _, lawMap b41 _, lawMap b42 _] [] [[], [], [0, 1], [], [], [3, 4], [2, 0, 1, 2], [5, 6, 0, 1, 2, 3, 4, 5, 6]] (.take 0 (.take 1 (.take 2 (.take 3 (.take 4 (.take 5 (.take 6 (.take 7 .done)))))))) (.cons (by exact (.tail _ (.tail _ (.tail _ (.tail _ (.tail _ (.tail _ (.tail _ (.tail _ (.tail _ (.head _))))))))))) (.cons (by exact (.tail _ (.tail _ (.tail _ (.head _))))) (.cons (by exact (.tail _ (.tail _ (.tail _ (.tail _ (.head _)))))) (.nil)))) (by kernel_rfl) (by kernel_rfl) (by kernel_rfl) (by kernel_rfl) (by kernel_rfl) ?_
            refine HP.take (i := 0) rfl rfl (ltn rfl) (gives_of want_none (V.move rfl)) (.cons (by exact (.tail _ (.tail _ (.tail _ (.tail _ (.tail _ (.tail _ (.tail _ (.tail _ (.tail _ (.head _))))))))))) (.cons (by exact (.tail _ (.tail _ (.tail _ (.head _))))) (.cons (by exact (.tail _ (.tail _ (.tail _ (.tail _ (.head _)))))) (Sub.nil)))) ?_
            refine HP.take (i := 1) rfl rfl (ltn rfl) (gives_of want_none (V.loadA ag55 rfl (by exact .mk .here (by repeat constructor)))) (.cons (by exact (.tail _ (.tail _ (.tail _ (.tail _ (.tail _ (.tail _ (.tail _ (.tail _ (.tail _ (.head _))))))))))) (.cons (by exact (.tail _ (.tail _ (.tail _ (.head _))))) (.cons (by exact (.tail _ (.tail _ (.tail _ (.tail _ (.head _)))))) (Sub.nil)))) ?_
            refine HP.take (i := 2) rfl rfl (ltn rfl) (gives_of want_none (V.lookup (K := keyL) (vf := vI) (v0 := 0) (k := (keyed s.t.held i)) Try.underlying52 ze3 rfl rfl (by exact keyed_key hf (by omega) hmi) (by exact HasM.own (.there .here)))) (.cons (by exact (.tail _ (.tail _ (.tail _ (.tail _ (.tail _ (.tail _ (.tail _ (.tail _ (.tail _ (.head _))))))))))) (.cons (by exact (.tail _ (.tail _ (.tail _ (.head _))))) (.cons (by exact (.tail _ (.tail _ (.tail _ (.tail _ (.head _)))))) (Sub.nil)))) ?_
            refine HP.take (i := 3) rfl rfl (ltn rfl) (gives_of want_none (V.move rfl)) (.cons (by exact (.tail _ (.tail _ (.tail _ (.tail _ (.tail _ (.tail _ (.tail _ (.tail _ (.tail _ (.head _))))))))))) (.cons (by exact (.tail _ (.tail _ (.tail _ (.head _))))) (.cons (by exact (.tail _ (.tail _ (.tail _ (.tail _ (.head _)))))) (Sub.nil)))) ?_
            refine HP.take (i := 4) rfl rfl (ltn rfl) (gives_of want_none (V.loadA ag55 rfl (by exact .mk .here (by repeat constructor)))) (.cons (by exact (.tail _ (.tail _ (.tail _ (.tail _ (.tail _ (.tail _ (.tail _ (.tail _ (.tail _ (.head _))))))))))) (.cons (by exact (.tail _ (.tail _ (.tail _ (.head _))))) (.cons (by exact (.tail _ (.tail _ (.tail _ (.tail _ (.head _)))))) (Sub.nil)))) ?_
            refine HP.take (i := 5) rfl rfl (ltn rfl) (gives_of want_none (V.lookup (K := keyL) (vf := vI) (v0 := 0) (k := (keyed s.t.held i)) Try.underlying52 ze3 rfl rfl (by exact keyed_key hf (by omega) hmi) (by exact HasM.own (.there (.there .here))))) (.cons (by exact (.tail _ (.tail _ (.tail _ (.tail _ (.tail _ (.tail _ (.tail _ (.tail _ (.tail _ (.head _))))))))))) (.cons (by exact (.tail _ (.tail _ (.tail _ (.head _))))) (.cons (by exact (.tail _ (.tail _ (.tail _ (.tail _ (.head _)))))) (Sub.nil)))) ?_
            refine HP.take (i := 6) rfl rfl (ltn rfl) (gives_of want_none (V.assign rfl)) (.cons (by exact (.tail _ (.tail _ (.tail _ (.tail _ (.tail _ (.tail _ (.tail _ (.tail _ (.tail _ (.head _))))))))))) (.cons (by exact (.tail _ (.tail _ (.tail _ (.head _))))) (.cons (by exact (.tail _ (.tail _ (.tail _ (.tail _ (.head _)))))) (Sub.nil)))) ?_
            refine HP.take (i := 7) rfl rfl (ltn rfl) (gives_of want_none (V.assign rfl)) (.cons (by exact (.tail _ (.tail _ (.tail _ (.tail _ (.tail _ (.tail _ (.tail _ (.tail _ (.tail _ (.head _))))))))))) (.cons (by exact (.tail _ (.tail _ (.tail _ (.head _))))) (.cons (by exact (.tail _ (.tail _ (.tail _ (.tail _ (.head _)))))) (Sub.nil)))) ?_
            refine HP.done ?_
            obtain ⟨kv, hkv⟩ : ∃ kv, mget s.t.known (keyed s.t.held i) = some kv := Option.isSome_iff_exists.1 (by simpa using h107)
            rw [show (reckon s.t k i) = (kv, (mget s.t.first (keyed s.t.held i)).getD 0, s.t) by unfold reckon; rw [if_neg h59, hkv], hkv]
            simp only [Option.getD_some]
            refine HQ.cut (()) ?_ ?_
            · trivial
            · skip
              exact HQ.fits (.cons rfl (.cons rfl (.cons rfl (.cons rfl (.cons rfl (.cons rfl (.cons rfl (.cons rfl (.cons rfl (.cons rfl (.cons rfl (.cons rfl (.cons rfl (.cons rfl (.cons rfl (.cons rfl (.nil))))))))))))))))) (by exact Rems.cons (by exact .here) (Rems.cons (by exact .here) (Rems.cons (by exact .here) (Rems.cons (by exact .here) (Rems.cons (by exact .here) (Rems.cons (by exact .here) (Rems.cons (by exact .here) (Rems.cons (by exact .here) (Rems.cons (by exact .here) (Rems.nil))))))))))
        · skip
          try simp only [decide_eq_true_eq, decide_eq_false_iff_not, Bool.not_eq_true', Bool.not_eq_false'] at h59
          refine H.skip ?_
          rw [show (reckon s.t k i) = (at_ s.t.held i.a, -1, s.t) by unfold reckon; rw [if_pos h59]]
          refine HQ.cut (()) ?_ ?_
          · trivial
          · skip
            exact HQ.fits (.cons rfl (.cons rfl (.cons rfl (.cons rfl (.cons rfl (.cons rfl (.cons rfl (.cons rfl (.cons rfl (.cons rfl (.cons rfl (.cons rfl (.cons rfl (.cons rfl (.cons rfl (.cons rfl (.nil))))))))))))))))) (by exact Rems.cons (by exact (.there .here)) (Rems.cons (by exact (.there .here)) (Rems.cons (by exact (.there .here)) (Rems.cons (by exact (.there .here)) (Rems.cons (by exact (.there .here)) (Rems.cons (by exact (.there .here)) (Rems.cons (by exact (.there .here)) (Rems.cons (by exact (.there .here)) (Rems.cons (by exact .here) (Rems.nil))))))))))
      intro _ _
      refine H.seq ?_
      refine H.region ?_
      refine HO.v (V.move rfl) (ltn rfl) ?_
      refine HO.v (V.move rfl) (ltn rfl) ?_
      refine HO.buildRow (encI .i64) ([(reckon s.t k i).1]) Try.underlying27 ze3 (.cons rfl (.nil)) (.cons rfl (.nil)) (Nat.le_of_ble_eq_true rfl) (Nat.le_of_ble_eq_true rfl) (ltn rfl) ?_
      intro b124
      refine HO.append (N := (encI .i64)) (zs := [(reckon s.t k i).1]) Try.underlying27 ze3 rfl rfl rfl (by exact (.there (.there (.there (.there (.there (.there .here))))))) (by exact Has.own .here) (by first | omega | (simp; omega)) (by decide) (ltn rfl) ?_
      intro A125 c125
      refine HO.v (V.move rfl) (ltn rfl) ?_
      refine HO.v (V.move rfl) (ltn rfl) ?_
      refine HO.buildRow (encI .i64) ([(reckon s.t k i).2.1]) Try.underlying27 ze3 (.cons rfl (.nil)) (.cons rfl (.nil)) (Nat.le_of_ble_eq_true rfl) (Nat.le_of_ble_eq_true rfl) (ltn rfl) ?_
      intro b128
      refine HO.append (N := (encI .i64)) (zs := [(reckon s.t k i).2.1]) Try.underlying27 ze3 rfl rfl rfl (by exact (.there (.there (.there (.there (.there (.there (.there (.there .here))))))))) (by exact Has.own .here) (by first | omega | (simp; omega)) (by decide) (ltn rfl) ?_
      intro A129 c129
      refine HO.v (V.assign rfl) (ltn rfl) ?_
      refine HO.v (V.assign rfl) (ltn rfl) ?_
      refine HO.nil ?_
      refine HQ.next ?_
      refine H.seq ?_
      refine H.region ?_
      refine HO.v (V.move rfl) (ltn rfl) ?_
      refine HO.v (V.load sc27 rfl (by exact .mk (.there (.there (.there (.there (.there .here))))) rfl)) (ltn rfl) ?_
      refine HO.v (V.fieldAddr (fs := #[]) fa50_2 rfl) (ltn rfl) ?_
      refine HO.v (V.load sc3 rfl (by exact .mk (.there (.there (.there (.there (.there (.there (.there (.there (.there (.there .here)))))))))) rfl)) (ltn rfl) ?_
      refine HO.v (V.indexAddr (N := (encI .i64)) (ys := _) Try.underlying27 sz3 rfl rfl (by omega) (by omega) (by exact Has.own (.there (.there (.there (.there (.there (.there .here)))))))) (ltn rfl) ?_
      refine HO.v (V.loadE (N := (encI .i64)) sc3 rfl (by exact .mk (Has.own (.there (.there (.there (.there (.there (.there .here))))))) (hat) rfl)) (ltn rfl) ?_
      refine HO.callV ca14 rfl (.cons rfl (.nil)) (hold14_w b6 (some ⟨b24, 0, none⟩) p.regs.toNat s.t.held _ (by omega)) (by exact Rems.nil) (by (refine Reads.own (.tail _ (.tail _ (.tail _ (.tail _ (.tail _ (.head _)))))) ?_); (refine Reads.row (.tail _ (.tail _ (.tail _ (.tail _ (.tail _ (.tail _ (.head _))))))) ?_); exact Reads.nil) (fun _ e => by cases e; exact (ltn rfl)) ?_
      rintro v136 L136 ⟨rfl, rfl⟩
      dsimp only [List.nil_append, List.cons_append]
      refine HO.v (V.fieldAddr (fs := #[]) fa50_2 rfl) (ltn rfl) ?_
      refine HO.store sz3 rfl rfl rfl rfl rfl (by exact .mk (.there (.there (.there (.there (.there (.there (.there (.there (.there (.there .here)))))))))) (by repeat constructor)) ?_
      refine HO.nil ?_
      refine HQ.next ?_
      refine H.cut (σ := Unit) (fun _ => [(1, .pointer (some ⟨b1, 0, none⟩)), (6, .pointer (some ⟨b6, 0, none⟩)), (9, .map (some b41)), (10, .map (some b42)), (11, .func (.func 14) #[] #[.pointer (some ⟨b6, 0, none⟩)]), (45, .slice A p.code.length n), (46, .int .i64 ((p.code.length : Nat) : Int)), (2, .slice A125 (s.vals ++ [(reckon s.t k i).1]).length c125), (3, .slice A129 (s.firsts ++ [(reckon s.t k i).2.1]).length c129), (4, .slice Ac s.code.length cc), (5, .slice none 0 0), (8, .int .i64 (reckon s.t k i).2.2.next), (13, .pointer (some ⟨b13, 0, none⟩)), (14, .int .i64 (reckon s.t k i).1), (47, .int .i64 ((k : Nat) : Int))]) (fun _ => [cellsCh b1 29 [.int .i64 p.ins, .int .i64 p.regs, .slice A p.code.length n, .slice Bo p.outs.length m], cellsCh b6 27 [.slice (some ⟨b24, 0, none⟩) s.t.held.length p.regs.toNat], rowE (encI .i64) 3 (some ⟨b24, 0, none⟩) p.regs.toNat s.t.held, lawMap b41 (reckon s.t k i).2.2.known, lawMap b42 (reckon s.t k i).2.2.first, rowE (encI .i64) 3 A125 c125 (s.vals ++ [(reckon s.t k i).1]), rowE (encI .i64) 3 A129 c129 (s.firsts ++ [(reckon s.t k i).2.1]), rowE encIn 50 Ac cc s.code, cellsCh b13 50 [.int .i64 (asked s.t.held i).op, .int .i64 (asked s.t.held i).to, .int .i64 (asked s.t.held i).a, .int .i64 (asked s.t.held i).b, .int .i64 (asked s.t.held i).c]]) (fun _ => True) ?_ ?_
      · skip
        refine H.seq ?_
        refine H.region ?_
        refine HO.v (V.fieldAddr (fs := #[]) fa50_0 rfl) (ltn rfl) ?_
        refine HO.v (V.load sc3 rfl (by exact .mk .here rfl)) (ltn rfl) ?_
        refine HO.v (V.eqlI rfl rfl) (ltn rfl) ?_
        refine HO.v (V.move rfl) (ltn rfl) ?_
        refine HO.part (t := 141) rfl (fun g141 => ?_) (fun g141 => ?_)
        · skip
          try simp only [decide_eq_true_eq, decide_eq_false_iff_not, Bool.not_eq_true', Bool.not_eq_false'] at g141
          refine HO.gskip rfl rfl rfl rfl (ltn rfl) ?_
          refine HO.gskip rfl rfl rfl rfl (ltn rfl) ?_
          refine HO.gskip rfl rfl rfl rfl (ltn rfl) ?_
          refine HO.v (V.pickT rfl rfl) (ltn rfl) ?_
          refine HO.nil ?_
          refine HQ.next ?_
          refine H.condT rfl rfl ?_
          refine H.region ?_
          have hbb := may_b hmi (by omega)
          have hbt := at_some (l := s.t.held) hbb.1 (by omega)
          refine HO.v (V.move rfl) (ltn rfl) ?_
          refine HO.v (V.load sc27 rfl (by exact .mk (.there (.there (.there (.there (.there (.there .here)))))) rfl)) (ltn rfl) ?_
          refine HO.v (V.fieldAddr (fs := #[]) fa50_3 rfl) (ltn rfl) ?_
          refine HO.v (V.load sc3 rfl (by exact .mk .here rfl)) (ltn rfl) ?_
          refine HO.v (V.indexAddr (N := (encI .i64)) (ys := _) Try.underlying27 sz3 rfl rfl (by omega) (by omega) (by exact Has.own (.there (.there (.there (.there (.there (.there (.there .here))))))))) (ltn rfl) ?_
          refine HO.v (V.loadE (N := (encI .i64)) sc3 rfl (by exact .mk (Has.own (.there (.there (.there (.there (.there (.there (.there .here)))))))) (hbt) rfl)) (ltn rfl) ?_
          refine HO.callV ca14 rfl (.cons rfl (.nil)) (hold14_w b6 (some ⟨b24, 0, none⟩) p.regs.toNat s.t.held _ (by omega)) (by exact Rems.nil) (by (refine Reads.own (.tail _ (.tail _ (.tail _ (.tail _ (.tail _ (.tail _ (.head _))))))) ?_); (refine Reads.row (.tail _ (.tail _ (.tail _ (.tail _ (.tail _ (.tail _ (.tail _ (.head _)))))))) ?_); exact Reads.nil) (fun _ e => by cases e; exact (ltn rfl)) ?_
          rintro v152 L152 ⟨rfl, rfl⟩
          dsimp only [List.nil_append, List.cons_append]
          refine HO.v (V.fieldAddr (fs := #[]) fa50_3 rfl) (ltn rfl) ?_
          refine HO.store sz3 rfl rfl rfl rfl rfl (by exact .mk .here (by repeat constructor)) ?_
          refine HO.nil ?_
          rw [show asked s.t.held i = ⟨i.op, i.to, holder s.t.held (at_ s.t.held i.a), holder s.t.held (at_ s.t.held i.b), i.c⟩ by unfold asked; rw [if_pos (by omega)]]
          refine HQ.cut (()) ?_ ?_
          · trivial
          · skip
            exact HQ.fits (.cons rfl (.cons rfl (.cons rfl (.cons rfl (.cons rfl (.cons rfl (.cons rfl (.cons rfl (.cons rfl (.cons rfl (.cons rfl (.cons rfl (.cons rfl (.cons rfl (.cons rfl (.nil)))))))))))))))) (by exact Rems.cons (by exact (.there (.there (.there (.there (.there .here)))))) (Rems.cons (by exact (.there (.there (.there (.there (.there .here)))))) (Rems.cons (by exact (.there (.there (.there (.there (.there .here)))))) (Rems.cons (by exact (.there (.there (.there (.there (.there .here)))))) (Rems.cons (by exact (.there (.there (.there (.there (.there .here)))))) (Rems.cons (by exact (.there (.there (.there .here)))) (Rems.cons (by exact (.there .here)) (Rems.cons (by exact (.there (.there (.there .here)))) (Rems.cons (by exact .here) (Rems.nil))))))))))
        · skip
          try simp only [decide_eq_true_eq, decide_eq_false_iff_not, Bool.not_eq_true', Bool.not_eq_false'] at g141
          refine HO.gdo rfl rfl rfl rfl ?_
          refine HO.v (V.fieldAddr (fs := #[]) fa50_0 rfl) (ltn rfl) ?_
          refine HO.gdo rfl rfl rfl rfl ?_
          refine HO.v (V.load sc3 rfl (by exact .mk .here rfl)) (ltn rfl) ?_
          refine HO.gdo rfl rfl rfl rfl ?_
          refine HO.v (V.eqlI rfl rfl) (ltn rfl) ?_
          refine HO.v (V.pickF rfl rfl) (ltn rfl) ?_
          refine HO.nil ?_
          refine HQ.next ?_
          refine H.condB rfl (fun h145 => ?_) (fun h145 => ?_)
          · skip
            try simp only [decide_eq_true_eq, decide_eq_false_iff_not, Bool.not_eq_true', Bool.not_eq_false'] at h145
            refine H.region ?_
            have hbb := may_b hmi (by omega)
            have hbt := at_some (l := s.t.held) hbb.1 (by omega)
            refine HO.v (V.move rfl) (ltn rfl) ?_
            refine HO.v (V.load sc27 rfl (by exact .mk (.there (.there (.there (.there (.there (.there .here)))))) rfl)) (ltn rfl) ?_
            refine HO.v (V.fieldAddr (fs := #[]) fa50_3 rfl) (ltn rfl) ?_
            refine HO.v (V.load sc3 rfl (by exact .mk .here rfl)) (ltn rfl) ?_
            refine HO.v (V.indexAddr (N := (encI .i64)) (ys := _) Try.underlying27 sz3 rfl rfl (by omega) (by omega) (by exact Has.own (.there (.there (.there (.there (.there (.there (.there .here))))))))) (ltn rfl) ?_
            refine HO.v (V.loadE (N := (encI .i64)) sc3 rfl (by exact .mk (Has.own (.there (.there (.there (.there (.there (.there (.there .here)))))))) (hbt) rfl)) (ltn rfl) ?_
            refine HO.callV ca14 rfl (.cons rfl (.nil)) (hold14_w b6 (some ⟨b24, 0, none⟩) p.regs.toNat s.t.held _ (by omega)) (by exact Rems.nil) (by (refine Reads.own (.tail _ (.tail _ (.tail _ (.tail _ (.tail _ (.tail _ (.head _))))))) ?_); (refine Reads.row (.tail _ (.tail _ (.tail _ (.tail _ (.tail _ (.tail _ (.tail _ (.head _)))))))) ?_); exact Reads.nil) (fun _ e => by cases e; exact (ltn rfl)) ?_
            rintro v152 L152 ⟨rfl, rfl⟩
            dsimp only [List.nil_append, List.cons_append]
            refine HO.v (V.fieldAddr (fs := #[]) fa50_3 rfl) (ltn rfl) ?_
            refine HO.store sz3 rfl rfl rfl rfl rfl (by exact .mk .here (by repeat constructor)) ?_
            refine HO.nil ?_
            rw [show asked s.t.held i = ⟨i.op, i.to, holder s.t.held (at_ s.t.held i.a), holder s.t.held (at_ s.t.held i.b), i.c⟩ by unfold asked; rw [if_pos (by omega)]]
            refine HQ.cut (()) ?_ ?_
            · trivial
            · skip
              exact HQ.fits (.cons rfl (.cons rfl (.cons rfl (.cons rfl (.cons rfl (.cons rfl (.cons rfl (.cons rfl (.cons rfl (.cons rfl (.cons rfl (.cons rfl (.cons rfl (.cons rfl (.cons rfl (.nil)))))))))))))))) (by exact Rems.cons (by exact (.there (.there (.there (.there (.there .here)))))) (Rems.cons (by exact (.there (.there (.there (.there (.there .here)))))) (Rems.cons (by exact (.there (.there (.there (.there (.there .here)))))) (Rems.cons (by exact (.there (.there (.there (.there (.there .here)))))) (Rems.cons (by exact (.there (.there (.there (.there (.there .here)))))) (Rems.cons (by exact (.there (.there (.there .here)))) (Rems.cons (by exact (.there .here)) (Rems.cons (by exact (.there (.there (.there .here)))) (Rems.cons (by exact .here) (Rems.nil))))))))))
          · skip
            try simp only [decide_eq_true_eq, decide_eq_false_iff_not, Bool.not_eq_true', Bool.not_eq_false'] at h145
            refine H.skip ?_
            rw [show asked s.t.held i = ⟨i.op, i.to, holder s.t.held (at_ s.t.held i.a), i.b, i.c⟩ by unfold asked; rw [if_neg (by omega)]]
            refine HQ.cut (()) ?_ ?_
            · trivial
            · skip
              exact HQ.fits (.cons rfl (.cons rfl (.cons rfl (.cons rfl (.cons rfl (.cons rfl (.cons rfl (.cons rfl (.cons rfl (.cons rfl (.cons rfl (.cons rfl (.cons rfl (.cons rfl (.cons rfl (.nil)))))))))))))))) (by exact Rems.cons (by exact (.there (.there (.there (.there (.there .here)))))) (Rems.cons (by exact (.there (.there (.there (.there (.there .here)))))) (Rems.cons (by exact (.there (.there (.there (.there (.there .here)))))) (Rems.cons (by exact (.there (.there (.there (.there (.there .here)))))) (Rems.cons (by exact (.there (.there (.there (.there (.there .here)))))) (Rems.cons (by exact (.there (.there (.there .here)))) (Rems.cons (by exact (.there .here)) (Rems.cons (by exact (.there (.there (.there .here)))) (Rems.cons (by exact .here) (Rems.nil))))))))))
      intro _ _
      refine H.seq ?_
      refine H.seq ?_
      refine H.region ?_
      refine HO.v (V.load sc27 rfl (by exact .mk (.there .here) rfl)) (ltn rfl) ?_
      refine HO.v (V.fieldAddr (fs := #[]) fa50_1 rfl) (ltn rfl) ?_
      refine HO.v (V.load sc3 rfl (by exact .mk (.there (.there (.there (.there (.there (.there (.there (.there .here)))))))) rfl)) (ltn rfl) ?_
      refine HO.v (V.indexAddr (N := (encI .i64)) (ys := _) Try.underlying27 sz3 rfl rfl (by first | exact hto0 | exact hto2 | omega) (by first | exact hto0 | exact hto2 | omega) (by exact Has.own (.there (.there .here)))) (ltn rfl) ?_
      refine HO.v (V.loadE (N := (encI .i64)) sc3 rfl (by exact .mk (Has.own (.there (.there .here))) (htt) rfl)) (ltn rfl) ?_
      refine HO.v (V.move rfl) (ltn rfl) ?_
      refine HO.v (V.eqlI rfl rfl) (ltn rfl) ?_
      refine HO.nil ?_
      refine HQ.next ?_
      refine H.condB rfl (fun h160 => ?_) (fun h160 => ?_)
      · skip
        try simp only [decide_eq_true_eq, decide_eq_false_iff_not, Bool.not_eq_true', Bool.not_eq_false'] at h160
        refine H.exit ?_
        refine HQ.then_exit ?_
        refine HQ.exit_hit ?_
        refine HQ.next ?_
        refine H.region ?_
        obtain ⟨e1, e2, e3, e4, e5, e6, e7⟩ := step_all hs hi hto0 (by omega)
        have e8 := code_eq hs hi h160
        rw [show (reckon s.t k i).1 = at_ s.t.held i.to from h160.symm, set_at hto0 hto2] at e4
        rw [e6, e7, e1, e2, e3, e4, e8]
        refine HO.v (V.add rfl rfl (by omega)) (ltn rfl) ?_
        refine HO.v (V.move rfl) (ltn rfl) ?_
        refine HO.nil ?_
        refine HQ.round ((k + 1, A125, c125, A129, c129, Ac, cc)) ?_ ?_ ?_
        · (dsimp only; omega)
        · (dsimp only; omega)
        · skip
          exact HQ.fits (.cons rfl (.cons rfl (.cons rfl (.cons rfl (.cons rfl (.cons rfl (.cons rfl (.cons rfl (.cons rfl (.cons rfl (.cons rfl (.cons rfl (.cons rfl (.nil)))))))))))))) (by exact Rems.cons (by exact .here) (Rems.cons (by exact .here) (Rems.cons (by exact .here) (Rems.cons (by exact .here) (Rems.cons (by exact .here) (Rems.cons (by exact .here) (Rems.cons (by exact .here) (Rems.cons (by exact .here) (Rems.nil)))))))))
      · skip
        try simp only [decide_eq_true_eq, decide_eq_false_iff_not, Bool.not_eq_true', Bool.not_eq_false'] at h160
        refine H.skip ?_
        refine HQ.next ?_
        refine H.seq ?_
        refine H.seq ?_
        refine H.region ?_
        refine HO.v (V.move rfl) (ltn rfl) ?_
        refine HO.v (V.move rfl) (ltn rfl) ?_
        refine HO.callV ca14 rfl (.cons rfl (.nil)) (hold14_w b6 (some ⟨b24, 0, none⟩) p.regs.toNat s.t.held _ (by omega)) (by exact Rems.nil) (by (refine Reads.own (.tail _ (.head _)) ?_); (refine Reads.row (.tail _ (.tail _ (.head _))) ?_); exact Reads.nil) (fun _ e => by cases e; exact (ltn rfl)) ?_
        rintro v163 L163 ⟨rfl, rfl⟩
        dsimp only [List.nil_append, List.cons_append]
        refine HO.v (V.assign rfl) (ltn rfl) ?_
        refine HO.nil ?_
        refine HQ.next ?_
        refine H.seq ?_
        refine H.region ?_
        refine HO.v (V.move rfl) (ltn rfl) ?_
        refine HO.v (V.geq rfl rfl) (ltn rfl) ?_
        refine HO.nil ?_
        refine HQ.next ?_
        refine H.condB rfl (fun h165 => ?_) (fun h165 => ?_)
        · skip
          try simp only [decide_eq_true_eq, decide_eq_false_iff_not, Bool.not_eq_true', Bool.not_eq_false'] at h165
          refine H.region ?_
          refine HO.v (V.fieldAddr (fs := #[]) fa50_1 rfl) (ltn rfl) ?_
          refine HO.v (V.load sc3 rfl (by exact .mk (.there (.there (.there (.there (.there (.there (.there (.there .here)))))))) rfl)) (ltn rfl) ?_
          refine HO.v (V.move rfl) (ltn rfl) ?_
          refine HO.v (V.build ze50 pl50 rfl (.cons rfl (.cons rfl (.cons rfl (.nil)))) (.cons rfl rfl rfl (by repeat constructor) (.cons rfl rfl rfl (by repeat constructor) (.cons rfl rfl rfl (by repeat constructor) (.nil))))) (ltn rfl) ?_
          refine HO.store sz50 rfl rfl rfl rfl rfl (by exact .mk (.there (.there (.there (.there (.there (.there (.there (.there .here)))))))) (by repeat constructor)) ?_
          refine HO.nil ?_
          refine HQ.next ?_
          refine H.seq ?_
          refine H.region ?_
          refine HO.v (V.move rfl) (ltn rfl) ?_
          refine HO.v (V.loadA ag50 rfl (by exact .mk .here (by repeat constructor))) (ltn rfl) ?_
          refine HO.buildRow encIn ([⟨1, i.to, holder s.t.held (reckon s.t k i).1, 0, 0⟩]) Try.underlying26 ze50 (.cons rfl (.nil)) (.cons rfl (.nil)) (Nat.le_of_ble_eq_true rfl) (Nat.le_of_ble_eq_true rfl) (ltn rfl) ?_
          intro b172
          refine HO.append (N := encIn) (zs := [⟨1, i.to, holder s.t.held (reckon s.t k i).1, 0, 0⟩]) Try.underlying26 ze50 rfl rfl rfl (by exact (.there (.there (.there (.there (.there (.there (.there (.there (.there .here)))))))))) (by exact Has.own .here) (by first | omega | (simp; omega)) (by decide) (ltn rfl) ?_
          intro A173 c173
          refine HO.v (V.assign rfl) (ltn rfl) ?_
          refine HO.nil ?_
          refine HQ.next ?_
          refine H.region ?_
          refine HO.v (V.load sc27 rfl (by exact .mk (.there (.there (.there (.there .here)))) rfl)) (ltn rfl) ?_
          refine HO.v (V.fieldAddr (fs := #[]) fa50_1 rfl) (ltn rfl) ?_
          refine HO.v (V.load sc3 rfl (by exact .mk (.there (.there .here)) rfl)) (ltn rfl) ?_
          refine HO.v (V.move rfl) (ltn rfl) ?_
          refine HO.v (V.indexAddr (N := (encI .i64)) (ys := _) Try.underlying27 sz3 rfl rfl (by first | exact hto0 | exact hto2 | omega) (by first | exact hto0 | exact hto2 | omega) (by exact Has.own (.there (.there (.there (.there (.there .here))))))) (ltn rfl) ?_
          refine HO.storeS (N := (encI .i64)) (z := _) sz3 rfl rfl rfl (by exact .mk (.there (.there (.there (.there (.there .here))))) (by first | omega | (show i.to.toNat < _; omega))) ?_
          refine HO.nil ?_
          refine HQ.block_normal ?_
          refine HQ.next ?_
          refine H.region ?_
          obtain ⟨e1, e2, e3, e4, e5, e6, e7⟩ := step_all hs hi hto0 (by omega)
          have e8 := code_move hs hi h160 h165
          rw [e1, e2, e3, show s.t.held.set (asked s.t.held i).to.toNat (reckon s.t k i).1 = (run p (p.code.take (k + 1))).t.held from e4, e5, e6, e7]
          rw [e8]
          refine HO.v (V.add rfl rfl (by omega)) (ltn rfl) ?_
          refine HO.v (V.move rfl) (ltn rfl) ?_
          refine HO.nil ?_
          refine HQ.round ((k + 1, A125, c125, A129, c129, A173, c173)) ?_ ?_ ?_
          · (dsimp only; omega)
          · (dsimp only; omega)
          · skip
            exact HQ.fits (.cons rfl (.cons rfl (.cons rfl (.cons rfl (.cons rfl (.cons rfl (.cons rfl (.cons rfl (.cons rfl (.cons rfl (.cons rfl (.cons rfl (.cons rfl (.nil)))))))))))))) (by exact Rems.cons (by exact (.there (.there (.there (.there .here))))) (Rems.cons (by exact (.there (.there (.there (.there .here))))) (Rems.cons (by exact .here) (Rems.cons (by exact (.there (.there (.there .here)))) (Rems.cons (by exact (.there (.there (.there .here)))) (Rems.cons (by exact (.there (.there (.there .here)))) (Rems.cons (by exact (.there (.there (.there .here)))) (Rems.cons (by exact .here) (Rems.nil)))))))))
        · skip
          try simp only [decide_eq_true_eq, decide_eq_false_iff_not, Bool.not_eq_true', Bool.not_eq_false'] at h165
          refine H.skip ?_
          refine HQ.next ?_
          refine H.seq ?_
          refine H.region ?_
          refine HO.v (V.move rfl) (ltn rfl) ?_
          refine HO.v (V.loadA ag50 rfl (by exact .mk (.there (.there (.there (.there (.there (.there (.there (.there .here)))))))) (by repeat constructor))) (ltn rfl) ?_
          refine HO.buildRow encIn ([asked s.t.held i]) Try.underlying26 ze50 (.cons rfl (.nil)) (.cons rfl (.nil)) (Nat.le_of_ble_eq_true rfl) (Nat.le_of_ble_eq_true rfl) (ltn rfl) ?_
          intro b172
          refine HO.append (N := encIn) (zs := [asked s.t.held i]) Try.underlying26 ze50 rfl rfl rfl (by exact (.there (.there (.there (.there (.there (.there (.there (.there .here))))))))) (by exact Has.own .here) (by first | omega | (simp; omega)) (by decide) (ltn rfl) ?_
          intro A173 c173
          refine HO.v (V.assign rfl) (ltn rfl) ?_
          refine HO.nil ?_
          refine HQ.next ?_
          refine H.region ?_
          refine HO.v (V.load sc27 rfl (by exact .mk (.there (.there (.there .here))) rfl)) (ltn rfl) ?_
          refine HO.v (V.fieldAddr (fs := #[]) fa50_1 rfl) (ltn rfl) ?_
          refine HO.v (V.load sc3 rfl (by exact .mk (.there (.there (.there (.there (.there (.there (.there (.there (.there .here))))))))) rfl)) (ltn rfl) ?_
          refine HO.v (V.move rfl) (ltn rfl) ?_
          refine HO.v (V.indexAddr (N := (encI .i64)) (ys := _) Try.underlying27 sz3 rfl rfl (by first | exact hto0 | exact hto2 | omega) (by first | exact hto0 | exact hto2 | omega) (by exact Has.own (.there (.there (.there (.there .here)))))) (ltn rfl) ?_
          refine HO.storeS (N := (encI .i64)) (z := _) sz3 rfl rfl rfl (by exact .mk (.there (.there (.there (.there .here)))) (by first | omega | (show i.to.toNat < _; omega))) ?_
          refine HO.nil ?_
          refine HQ.block_normal ?_
          refine HQ.next ?_
          refine H.region ?_
          obtain ⟨e1, e2, e3, e4, e5, e6, e7⟩ := step_all hs hi hto0 (by omega)
          have e8 := code_ask hs hi h160 h165
          rw [e1, e2, e3, show s.t.held.set (asked s.t.held i).to.toNat (reckon s.t k i).1 = (run p (p.code.take (k + 1))).t.held from e4, e5, e6, e7]
          rw [e8]
          refine HO.v (V.add rfl rfl (by omega)) (ltn rfl) ?_
          refine HO.v (V.move rfl) (ltn rfl) ?_
          refine HO.nil ?_
          refine HQ.round ((k + 1, A125, c125, A129, c129, A173, c173)) ?_ ?_ ?_
          · (dsimp only; omega)
          · (dsimp only; omega)
          · skip
            exact HQ.fits (.cons rfl (.cons rfl (.cons rfl (.cons rfl (.cons rfl (.cons rfl (.cons rfl (.cons rfl (.cons rfl (.cons rfl (.cons rfl (.cons rfl (.cons rfl (.nil)))))))))))))) (by exact Rems.cons (by exact (.there (.there (.there .here)))) (Rems.cons (by exact (.there (.there (.there .here)))) (Rems.cons (by exact .here) (Rems.cons (by exact (.there (.there .here))) (Rems.cons (by exact (.there (.there .here))) (Rems.cons (by exact (.there (.there .here))) (Rems.cons (by exact (.there (.there .here))) (Rems.cons (by exact .here) (Rems.nil)))))))))
    · skip
      try simp only [decide_eq_true_eq, decide_eq_false_iff_not, Bool.not_eq_true', Bool.not_eq_false'] at h48
      have hkl : p.code.take k = p.code := List.take_of_length_le (by omega)
      rw [hkl]
      have hf := run_fine hv.ins1 hv.ins2 hv.may
      have hln := hf.len
      have hsv := run_vals p p.code
      refine H.exit ?_
      refine HQ.then_exit ?_
      refine HQ.then_exit ?_
      refine HQ.exit_hit ?_
      refine HQ.keep (.cons (t := 1) rfl (.cons (t := 2) rfl (.cons (t := 3) rfl (.cons (t := 4) rfl (.cons (t := 5) rfl (.cons (t := 6) rfl (.cons (t := 11) rfl (.nil)))))))) ?_
      refine HQ.next ?_
      refine H.seq ?_
      refine H.seq ?_
      refine H.region ?_
      refine HO.v (V.fieldAddr (fs := #[]) fa29_3 rfl) (ltn rfl) ?_
      refine HO.v (V.load sc27 rfl (by exact .mk .here rfl)) (ltn rfl) ?_
      refine HO.v (V.len Try.underlying27 rfl) (ltn rfl) ?_
      refine HO.v (V.move rfl) (ltn rfl) ?_
      refine HO.nil ?_
      refine HQ.keep (.cons (t := 2) rfl (.cons (t := 3) rfl (.cons (t := 4) rfl (.cons (t := 5) rfl (.cons (t := 6) rfl (.cons (t := 11) rfl (.cons (t := 181) rfl (.cons (t := 182) rfl (.cons (t := 183) rfl (.nil)))))))))) ?_
      refine HQ.next ?_
      refine H.block ?_
      refine H.loop (σ := Nat × Option Addr × Nat) (fun s => p.outs.length - s.1) (fun s => [(2, .slice Av (run p p.code).vals.length cv), (3, .slice Af (run p p.code).firsts.length cf), (4, .slice Ac (run p p.code).code.length cc), (5, .slice s.2.1 (outsOf (run p p.code) (p.outs.take s.1)).length s.2.2), (6, .pointer (some ⟨b6, 0, none⟩)), (11, .func (.func 14) #[] #[.pointer (some ⟨b6, 0, none⟩)]), (181, .slice Bo p.outs.length m), (182, .int .i64 ((p.outs.length : Nat) : Int)), (183, .int .i64 ((s.1 : Nat) : Int))]) (fun s => [cellsCh b6 27 [.slice (some ⟨b24, 0, none⟩) (run p p.code).t.held.length p.regs.toNat], rowE (encI .i64) 3 (some ⟨b24, 0, none⟩) p.regs.toNat (run p p.code).t.held, rowE (encI .i64) 3 Av cv (run p p.code).vals, rowE (encI .i64) 3 Af cf (run p p.code).firsts, rowE encIn 50 Ac cc (run p p.code).code, rowE (encI .i64) 3 s.2.1 s.2.2 (outsOf (run p p.code) (p.outs.take s.1))]) (fun s => s.1 ≤ p.outs.length) ((0, none, 0)) ?_ ?_ ?_
      · exact Nat.zero_le _
      · skip
        refine HQ.free (rowE (encI .i64) 3 none 0 ([] : List Int)) rfl (fun w => OwnRow.nil w 3 1) ?_
        exact HQ.fits (.cons rfl (.cons rfl (.cons rfl (.cons rfl (.cons rfl (.cons rfl (.cons rfl (.cons rfl (.cons rfl (.nil)))))))))) (by exact Rems.cons (by exact (.there (.there .here))) (Rems.cons (by exact (.there (.there .here))) (Rems.cons (by exact (.there (.there (.there (.there .here))))) (Rems.cons (by exact (.there (.there (.there (.there .here))))) (Rems.cons (by exact (.there (.there (.there (.there .here))))) (Rems.cons (by exact .here) (Rems.nil)))))))
      rintro ⟨q, Dq, dq⟩ hq
      dsimp only at hq ⊢
      have hol : (outsOf (run p p.code) (p.outs.take q)).length = q := by (simp [outsOf]; omega)
      refine H.seq ?_
      refine H.region ?_
      refine HO.v (V.lss rfl rfl) (ltn rfl) ?_
      refine HO.nil ?_
      refine HQ.next ?_
      refine H.seq ?_
      refine H.condB rfl (fun h184 => ?_) (fun h184 => ?_)
      · skip
        try simp only [decide_eq_true_eq, decide_eq_false_iff_not, Bool.not_eq_true', Bool.not_eq_false'] at h184
        obtain ⟨r, hr⟩ : ∃ r, p.outs[q]? = some r := ⟨_, List.getElem?_eq_getElem (by omega)⟩
        have hrb := hv.outs r (List.mem_of_getElem? hr)
        have hrt := at_some (l := (run p p.code).t.held) hrb.1 (by omega)
        refine H.skip ?_
        refine HQ.next ?_
        refine H.seq ?_
        refine H.block ?_
        refine H.seq ?_
        refine H.region ?_
        refine HO.v (V.indexAddr (N := (encI .i64)) (ys := _) Try.underlying27 sz3 rfl rfl (by omega) (by omega) (by exact Has.ro (.tail _ (.head _)))) (ltn rfl) ?_
        refine HO.v (V.loadE (N := (encI .i64)) sc3 rfl (by exact .mk (Has.ro (.tail _ (.head _))) (hr) rfl)) (ltn rfl) ?_
        refine HO.v (V.assign rfl) (ltn rfl) ?_
        refine HO.nil ?_
        refine HQ.next ?_
        refine H.region ?_
        refine HO.v (V.move rfl) (ltn rfl) ?_
        refine HO.v (V.move rfl) (ltn rfl) ?_
        refine HO.v (V.load sc27 rfl (by exact .mk .here rfl)) (ltn rfl) ?_
        refine HO.v (V.move rfl) (ltn rfl) ?_
        refine HO.v (V.indexAddr (N := (encI .i64)) (ys := _) Try.underlying27 sz3 rfl rfl (by omega) (by omega) (by exact Has.own (.there .here))) (ltn rfl) ?_
        refine HO.v (V.loadE (N := (encI .i64)) sc3 rfl (by exact .mk (Has.own (.there .here)) (hrt) rfl)) (ltn rfl) ?_
        refine HO.callV ca14 rfl (.cons rfl (.nil)) (hold14_w b6 (some ⟨b24, 0, none⟩) p.regs.toNat (run p p.code).t.held _ (by omega)) (by exact Rems.nil) (by (refine Reads.own (.head _) ?_); (refine Reads.row (.tail _ (.head _)) ?_); exact Reads.nil) (fun _ e => by cases e; exact (ltn rfl)) ?_
        rintro v193 L193 ⟨rfl, rfl⟩
        dsimp only [List.nil_append, List.cons_append]
        refine HO.buildRow (encI .i64) ([holder (run p p.code).t.held (at_ (run p p.code).t.held r)]) Try.underlying27 ze3 (.cons rfl (.nil)) (.cons rfl (.nil)) (Nat.le_of_ble_eq_true rfl) (Nat.le_of_ble_eq_true rfl) (ltn rfl) ?_
        intro b194
        refine HO.append (N := (encI .i64)) (zs := [holder (run p p.code).t.held (at_ (run p p.code).t.held r)]) Try.underlying27 ze3 rfl rfl rfl (by exact (.there (.there (.there (.there (.there (.there .here))))))) (by exact Has.own .here) (by first | omega | (simp; omega)) (by decide) (ltn rfl) ?_
        intro A195 c195
        refine HO.v (V.assign rfl) (ltn rfl) ?_
        refine HO.nil ?_
        refine HQ.block_normal ?_
        refine HQ.next ?_
        refine H.region ?_
        rw [outsOf_snoc (run p p.code) hr]
        refine HO.v (V.add rfl rfl (by omega)) (ltn rfl) ?_
        refine HO.v (V.move rfl) (ltn rfl) ?_
        refine HO.nil ?_
        refine HQ.round ((q + 1, A195, c195)) ?_ ?_ ?_
        · (dsimp only; omega)
        · (dsimp only; omega)
        · skip
          exact HQ.fits (.cons rfl (.cons rfl (.cons rfl (.cons rfl (.cons rfl (.cons rfl (.cons rfl (.cons rfl (.cons rfl (.nil)))))))))) (by exact Rems.cons (by exact (.there (.there .here))) (Rems.cons (by exact (.there (.there .here))) (Rems.cons (by exact (.there (.there .here))) (Rems.cons (by exact (.there (.there .here))) (Rems.cons (by exact (.there (.there .here))) (Rems.cons (by exact .here) (Rems.nil)))))))
      · skip
        try simp only [decide_eq_true_eq, decide_eq_false_iff_not, Bool.not_eq_true', Bool.not_eq_false'] at h184
        obtain rfl : q = p.outs.length := by omega
        rw [List.take_length]
        refine H.exit ?_
        refine HQ.then_exit ?_
        refine HQ.then_exit ?_
        refine HQ.exit_hit ?_
        refine HQ.keep (.cons (t := 2) rfl (.cons (t := 3) rfl (.cons (t := 4) rfl (.cons (t := 5) rfl (.nil))))) ?_
        refine HQ.next ?_
        refine H.seq ?_
        refine H.region ?_
        refine HO.v (V.move rfl) (ltn rfl) ?_
        refine HO.v (V.move rfl) (ltn rfl) ?_
        refine HO.v (V.move rfl) (ltn rfl) ?_
        refine HO.v (V.move rfl) (ltn rfl) ?_
        refine HO.v (V.assign rfl) (ltn rfl) ?_
        refine HO.v (V.assign rfl) (ltn rfl) ?_
        refine HO.v (V.assign rfl) (ltn rfl) ?_
        refine HO.v (V.assign rfl) (ltn rfl) ?_
        refine HO.nil ?_
        refine HQ.keep (.cons (t := 2) rfl (.cons (t := 3) rfl (.cons (t := 4) rfl (.cons (t := 5) rfl (.nil))))) ?_
        refine HQ.next ?_
        refine H.ret ?_
        refine HQ.end_ rfl rfl rfl rfl (.inl rfl) _ (fun a w s => resRL Try.results7 rfl s (.cons (.tmp rfl) (.cons (.tmp rfl) (.cons (.tmp rfl) (.cons (.tmp rfl) (.nil)))))) ?_
        refine ⟨[rowE (encI .i64) 3 Av cv (run p p.code).vals, rowE (encI .i64) 3 Af cf (run p p.code).firsts, rowE encIn 50 Ac cc (run p p.code).code, rowE (encI .i64) 3 Dq dq (outsOf (run p p.code) p.outs)], _, (by exact Rems.cons (by exact (.there (.there .here))) (Rems.cons (by exact (.there (.there .here))) (Rems.cons (by exact (.there (.there .here))) (Rems.cons (by exact (.there (.there .here))) (Rems.nil))))), ?_⟩
        exact ⟨_, _, _, _, _, _, _, _, rfl, rfl⟩

end Go.Proofs.Ytcmlghemanjaaaa
