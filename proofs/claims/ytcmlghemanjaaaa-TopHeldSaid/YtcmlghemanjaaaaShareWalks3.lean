/- Walks of package share: the values, what comes up twice. Conditions: as the theorems say. -/
import Derived.Test.YtcmlghemanjaaaaPgJ
import Derived.Test.YtcmlghemanjaaaaShareWalks2
set_option linter.unusedVariables false
set_option linter.unusedSimpArgs false
set_option maxRecDepth 10000
namespace Go.Proofs.Ytcmlghemanjaaaa
open Go Go.RowKit Sl Pg

set_option maxRecDepth 100000
theorem ag29 : Aggr Go.Proofs.Try.prog 29 4 := ⟨by kernel_rfl, by kernel_rfl⟩
theorem ca15 : Callable Go.Proofs.Try.prog 15 := by unfold Callable; kernel_rfl
theorem ca16 : Callable Go.Proofs.Try.prog 16 := by unfold Callable; kernel_rfl
theorem ca17 : Callable Go.Proofs.Try.prog 17 := by unfold Callable; kernel_rfl
set_option maxRecDepth 10000

set_option maxHeartbeats 1000000 in
theorem values_w (p : Prg) (A : Option Addr) (n : Nat) (Bo : Option Addr) (m : Nat) (hv : Right p) :
    Tri Try.prog 8 #[vPg p A n Bo m] [roE encIn A p.code, roE (encI .i64) Bo p.outs] [] (fun v L' => ∃ C k, v = .tuple #[.slice C (run p p.code).vals.length k, .int .i64 0] ∧ L' = [rowE (encI .i64) 3 C k (run p p.code).vals]) := by
  have hp1 := hv.ins1
  have hp2 := hv.ins2
  have hp3 := hv.regs
  have hp4 := hv.code
  refine Tri.of' 51 [vPg p A n Bo m] [(0, vPg p A n Bo m)] Try.func8 Try.ntmps8 rfl rfl rfl ?_
  intro w0
  refine H.seq ?_
  refine H.region ?_
  refine HO.box rfl rfl (ltn rfl) ?_
  intro b1
  refine HO.v (V.assign rfl) (ltn rfl) ?_
  refine HO.v (V.assign rfl) (ltn rfl) ?_
  refine HO.nil ?_
  refine HQ.next ?_
  refine H.seq ?_
  refine H.seq ?_
  refine H.region ?_
  refine HO.v (V.loadA ag29 rfl (by exact .mk .here (by repeat constructor))) (ltn rfl) ?_
  refine HO.call ca15 (.cons rfl (.nil)) (check_w p A n Bo m hv) (by exact Rems.nil) (by (refine Reads.ro (.head _) ?_); (refine Reads.ro (.tail _ (.head _)) ?_); exact Reads.nil) (ltn rfl) ?_
  rintro v14 L14 ⟨rfl, rfl⟩
  dsimp only [List.nil_append, List.cons_append]
  refine HO.v (V.move rfl) (ltn rfl) ?_
  refine HO.v (V.extract rfl rfl) (ltn rfl) ?_
  refine HO.v (V.extract rfl rfl) (ltn rfl) ?_
  refine HO.v (V.assign rfl) (ltn rfl) ?_
  refine HO.v (V.assign rfl) (ltn rfl) ?_
  refine HO.nil ?_
  refine HQ.keep (.cons (t := 1) rfl (.cons (t := 2) rfl (.cons (t := 3) rfl (.cons (t := 5) rfl (.nil))))) ?_
  refine HQ.next ?_
  refine H.seq ?_
  refine H.region ?_
  refine HO.v (V.move rfl) (ltn rfl) ?_
  refine HO.v (V.neqI rfl rfl) (ltn rfl) ?_
  refine HO.nil ?_
  refine HQ.next ?_
  refine H.condF rfl (by rfl) ?_
  refine H.skip ?_
  refine HQ.next ?_
  refine H.seq ?_
  refine H.region ?_
  refine HO.v (V.loadA ag29 rfl (by exact .mk .here (by repeat constructor))) (ltn rfl) ?_
  refine HO.call ca16 (.cons rfl (.nil)) (newTable_w p A n Bo m hv.ins1 hv.ins2 hv.regs) (by exact Rems.nil) (by exact Reads.nil) (ltn rfl) ?_
  rintro v21 L21 ⟨bT, Ha, hc, q1, q2, rfl, rfl⟩
  dsimp only [List.nil_append, List.cons_append]
  refine HO.v (V.assign rfl) (ltn rfl) ?_
  refine HO.nil ?_
  refine HQ.keep (.cons (t := 1) rfl (.cons (t := 2) rfl (.cons (t := 3) rfl (.cons (t := 6) rfl (.nil))))) ?_
  refine HQ.next ?_
  refine H.seq ?_
  refine H.region ?_
  refine HO.v (V.assign rfl) (ltn rfl) ?_
  refine HO.nil ?_
  refine HQ.next ?_
  refine H.seq ?_
  refine H.seq ?_
  refine H.region ?_
  refine HO.v (V.fieldAddr (fs := #[]) fa29_2 rfl) (ltn rfl) ?_
  refine HO.v (V.load sc26 rfl (by exact .mk (.there (.there (.there (.there .here)))) rfl)) (ltn rfl) ?_
  refine HO.v (V.len Try.underlying26 rfl) (ltn rfl) ?_
  refine HO.v (V.move rfl) (ltn rfl) ?_
  refine HO.nil ?_
  refine HQ.keep (.cons (t := 2) rfl (.cons (t := 3) rfl (.cons (t := 6) rfl (.cons (t := 7) rfl (.cons (t := 23) rfl (.cons (t := 24) rfl (.cons (t := 25) rfl (.nil)))))))) ?_
  refine HQ.next ?_
  refine H.block ?_
  refine H.loop (σ := Nat × Option Addr × Nat) (fun s => p.code.length - s.1) (fun s => [(6, .pointer (some ⟨bT, 0, none⟩)), (7, .slice s.2.1 (run p (p.code.take s.1)).vals.length s.2.2), (23, .slice A p.code.length n), (24, .int .i64 ((p.code.length : Nat) : Int)), (25, .int .i64 ((s.1 : Nat) : Int))]) (fun s => [tabCell bT Ha (run p (p.code.take s.1)).t.held.length hc q1 q2 (run p (p.code.take s.1)).t.next, rowE (encI .i64) 3 Ha hc (run p (p.code.take s.1)).t.held, tabMap q1 (run p (p.code.take s.1)).t.known, tabMap q2 (run p (p.code.take s.1)).t.first, rowE (encI .i64) 3 s.2.1 s.2.2 (run p (p.code.take s.1)).vals]) (fun s => s.1 ≤ p.code.length) ((0, none, 0)) ?_ ?_ ?_
  · exact Nat.zero_le _
  · skip
    refine HQ.free (rowE (encI .i64) 3 none 0 ([] : List Int)) rfl (fun w => OwnRow.nil w 3 1) ?_
    exact HQ.fits (.cons rfl (.cons rfl (.cons rfl (.cons rfl (.cons rfl (.nil)))))) (by exact Rems.cons (by exact (.there .here)) (Rems.cons (by exact (.there .here)) (Rems.cons (by exact (.there .here)) (Rems.cons (by exact (.there .here)) (Rems.cons (by exact .here) (Rems.nil))))))
  rintro ⟨k, Ck, ck⟩ hk
  dsimp only at hk ⊢
  refine H.seq ?_
  refine H.region ?_
  refine HO.v (V.lss rfl rfl) (ltn rfl) ?_
  refine HO.nil ?_
  refine HQ.next ?_
  refine H.seq ?_
  refine H.condB rfl (fun h26 => ?_) (fun h26 => ?_)
  · skip
    try simp only [decide_eq_true_eq, decide_eq_false_iff_not, Bool.not_eq_true', Bool.not_eq_false'] at h26
    obtain ⟨i, hi⟩ : ∃ i, p.code[k]? = some i := ⟨_, List.getElem?_eq_getElem (by omega)⟩
    have hmi := hv.may i (List.mem_of_getElem? hi)
    have hto0 := hmi.to0
    have hto1 := hmi.to1
    obtain ⟨s, hs⟩ : ∃ s, run p (p.code.take k) = s := ⟨_, rfl⟩
    have hf := prefix_fine hv hs
    have hln := hf.len
    have hsv := run_vals p (p.code.take k)
    rw [hs] at hsv
    have htl : (p.code.take k).length = k := by (simp; omega)
    rw [hs]
    refine H.skip ?_
    refine HQ.next ?_
    refine H.seq ?_
    refine H.block ?_
    refine H.seq ?_
    refine H.region ?_
    refine HO.v (V.move rfl) (ltn rfl) ?_
    refine HO.v (V.indexAddr (N := encIn) (ys := _) Try.underlying26 sz50 rfl rfl (by omega) (by omega) (by exact Has.ro (.head _))) (ltn rfl) ?_
    refine HO.v (V.loadEA (N := encIn) ag50 rfl (by exact .mk (Has.ro (.head _)) (hi) rfl)) (ltn rfl) ?_
    refine HO.alloc ze50 rfl (ltn rfl) ?_
    intro b9
    refine HO.v (V.assign rfl) (ltn rfl) ?_
    refine HO.store sz50 rfl rfl rfl rfl rfl (by exact .mk .here (by repeat constructor)) ?_
    refine HO.nil ?_
    refine HQ.next ?_
    refine H.seq ?_
    refine H.region ?_
    refine HO.v (V.move rfl) (ltn rfl) ?_
    refine HO.v (V.move rfl) (ltn rfl) ?_
    refine HO.v (V.loadA ag50 rfl (by exact .mk .here (by repeat constructor))) (ltn rfl) ?_
    refine HO.call ca17 (.cons rfl (.cons rfl (.cons rfl (.nil)))) (reckon_w bT Ha hc q1 q2 s.t k i p.regs (p.ins + 1 + 16384) hf (by omega) hv.regs hmi) (by exact Rems.cons (by exact (.there .here)) (Rems.cons (by exact (.there .here)) (Rems.cons (by exact (.there .here)) (Rems.cons (by exact (.there .here)) (Rems.nil))))) (by exact Reads.nil) (ltn rfl) ?_
    rintro v34 L34 ⟨rfl, rfl⟩
    dsimp only [List.nil_append, List.cons_append]
    refine HO.v (V.move rfl) (ltn rfl) ?_
    refine HO.v (V.extract rfl rfl) (ltn rfl) ?_
    refine HO.v (V.extract rfl rfl) (ltn rfl) ?_
    refine HO.v (V.assign rfl) (ltn rfl) ?_
    refine HO.v (V.assign rfl) (ltn rfl) ?_
    refine HO.nil ?_
    refine HQ.keep (.cons (t := 6) rfl (.cons (t := 7) rfl (.cons (t := 8) rfl (.cons (t := 9) rfl (.cons (t := 10) rfl (.cons (t := 23) rfl (.cons (t := 24) rfl (.cons (t := 25) rfl (.cons (t := 26) rfl (.cons (t := 27) rfl (.cons (t := 28) rfl (.cons (t := 29) rfl (.cons (t := 30) rfl (.cons (t := 31) rfl (.cons (t := 32) rfl (.cons (t := 33) rfl (.cons (t := 34) rfl (.cons (t := 35) rfl (.cons (t := 36) rfl (.nil)))))))))))))))))))) ?_
    refine HQ.next ?_
    refine H.seq ?_
    refine H.drawsP [tabCell bT _ _ _ _ _ _, rowE (encI .i64) 3 Ha hc _, cellsCh b9 _ _] [8] [[], [0], [1], [2], [], [4], [], [3, 5, 0, 1, 2, 3, 4, 5, 6], [7, 6, 0, 1, 2, 3, 4, 5, 6]] (.take 0 (.take 1 (.take 2 (.take 3 (.take 4 (.take 5 (.take 6 (.take 7 (.one 8 .done))))))))) (.cons (by exact (.head _)) (.cons (by exact (.tail _ (.head _))) (.cons (by exact (.tail _ (.tail _ (.tail _ (.tail _ (.head _)))))) (.nil)))) (by kernel_rfl) (by kernel_rfl) (by kernel_rfl) (by kernel_rfl) (by kernel_rfl) ?_
    refine HP.take (i := 0) rfl rfl (ltn rfl) (gives_of want_none (V.move rfl)) (.cons (by exact (.head _)) (.cons (by exact (.tail _ (.head _))) (.cons (by exact (.tail _ (.tail _ (.tail _ (.tail _ (.head _)))))) (Sub.nil)))) ?_
    refine HP.take (i := 1) rfl rfl (ltn rfl) (gives_of want_none (V.nilCheck rfl)) (.cons (by exact (.head _)) (.cons (by exact (.tail _ (.head _))) (.cons (by exact (.tail _ (.tail _ (.tail _ (.tail _ (.head _)))))) (Sub.nil)))) ?_
    refine HP.take (i := 2) rfl rfl (ltn rfl) (gives_of want_none (V.fieldAddr (fs := #[]) fa64_0 rfl)) (.cons (by exact (.head _)) (.cons (by exact (.tail _ (.head _))) (.cons (by exact (.tail _ (.tail _ (.tail _ (.tail _ (.head _)))))) (Sub.nil)))) ?_
    refine HP.take (i := 3) rfl rfl (ltn rfl) (gives_of want_none (V.load sc27 rfl (by exact .mk .here rfl))) (.cons (by exact (.head _)) (.cons (by exact (.tail _ (.head _))) (.cons (by exact (.tail _ (.tail _ (.tail _ (.tail _ (.head _)))))) (Sub.nil)))) ?_
    refine HP.take (i := 4) rfl rfl (ltn rfl) (gives_of want_none (V.fieldAddr (fs := #[]) fa50_1 rfl)) (.cons (by exact (.head _)) (.cons (by exact (.tail _ (.head _))) (.cons (by exact (.tail _ (.tail _ (.tail _ (.tail _ (.head _)))))) (Sub.nil)))) ?_
    refine HP.take (i := 5) rfl rfl (ltn rfl) (gives_of want_none (V.load sc3 rfl (by exact .mk (.there (.there .here)) rfl))) (.cons (by exact (.head _)) (.cons (by exact (.tail _ (.head _))) (.cons (by exact (.tail _ (.tail _ (.tail _ (.tail _ (.head _)))))) (Sub.nil)))) ?_
    refine HP.take (i := 6) rfl rfl (ltn rfl) (gives_of want_none (V.move rfl)) (.cons (by exact (.head _)) (.cons (by exact (.tail _ (.head _))) (.cons (by exact (.tail _ (.tail _ (.tail _ (.tail _ (.head _)))))) (Sub.nil)))) ?_
    refine HP.take (i := 7) rfl rfl (ltn rfl) (gives_of want_none (V.indexAddr (N := (encI .i64)) (ys := _) Try.underlying27 sz3 rfl rfl (by omega) (by omega) (by exact Has.own (.there .here)))) (.cons (by exact (.head _)) (.cons (by exact (.tail _ (.head _))) (.cons (by exact (.tail _ (.tail _ (.tail _ (.tail _ (.head _)))))) (Sub.nil)))) ?_
    refine HP.one (i := 8) rfl ?_
    intro fuel listed hno haf hrp hpk hfs
    refine HO.storeS (N := (encI .i64)) (z := _) sz3 rfl rfl rfl (by exact .mk (.there .here) (by first | assumption | omega)) ?_
    refine HO.nil ?_
    refine HQ.nxtF (m := 8) hno haf hrp hpk hfs (by decide) (by kernel_rfl) rfl ?_
    refine HP.done ?_
    refine HQ.next ?_
    refine H.region ?_
    refine HO.v (V.move rfl) (ltn rfl) ?_
    refine HO.v (V.move rfl) (ltn rfl) ?_
    refine HO.buildRow (encI .i64) ([(reckon s.t k i).1]) Try.underlying27 ze3 (.cons rfl (.nil)) (.cons rfl (.nil)) (Nat.le_of_ble_eq_true rfl) (Nat.le_of_ble_eq_true rfl) (ltn rfl) ?_
    intro b47
    refine HO.append (N := (encI .i64)) (zs := [(reckon s.t k i).1]) Try.underlying27 ze3 rfl rfl rfl (by exact (.there (.there (.there (.there (.there (.there .here))))))) (by exact Has.own .here) (by first | omega | (simp; omega)) (by decide) (ltn rfl) ?_
    intro A48 c48
    refine HO.v (V.assign rfl) (ltn rfl) ?_
    refine HO.nil ?_
    refine HQ.block_normal ?_
    refine HQ.next ?_
    refine H.region ?_
    obtain ⟨e1, e2, e3, e4, e5, e6, e7⟩ := step_all hs hi hto0 (by omega)
    rw [e1, e2, e3, e4, e5, e6]
    refine HO.v (V.add rfl rfl (by omega)) (ltn rfl) ?_
    refine HO.v (V.move rfl) (ltn rfl) ?_
    refine HO.nil ?_
    refine HQ.round ((k + 1, A48, c48)) ?_ ?_ ?_
    · (dsimp only; omega)
    · (dsimp only; omega)
    · skip
      exact HQ.fits (.cons rfl (.cons rfl (.cons rfl (.cons rfl (.cons rfl (.nil)))))) (by exact Rems.cons (by exact (.there (.there (.there .here)))) (Rems.cons (by exact (.there (.there .here))) (Rems.cons (by exact (.there (.there .here))) (Rems.cons (by exact (.there (.there .here))) (Rems.cons (by exact .here) (Rems.nil))))))
  · skip
    try simp only [decide_eq_true_eq, decide_eq_false_iff_not, Bool.not_eq_true', Bool.not_eq_false'] at h26
    have hkl : p.code.take k = p.code := List.take_of_length_le (by omega)
    rw [hkl]
    refine H.exit ?_
    refine HQ.then_exit ?_
    refine HQ.then_exit ?_
    refine HQ.exit_hit ?_
    refine HQ.next ?_
    refine H.seq ?_
    refine H.region ?_
    refine HO.v (V.move rfl) (ltn rfl) ?_
    refine HO.v (V.assign rfl) (ltn rfl) ?_
    refine HO.v (V.assign rfl) (ltn rfl) ?_
    refine HO.nil ?_
    refine HQ.keep (.cons (t := 2) rfl (.cons (t := 3) rfl (.nil))) ?_
    refine HQ.next ?_
    refine H.ret ?_
    refine HQ.end_ rfl rfl rfl rfl (.inl rfl) _ (fun a w s => res2 Try.results8 s rfl rfl) ?_
    refine ⟨[rowE (encI .i64) 3 Ck ck (run p p.code).vals], _, (by exact Rems.cons (by exact (.there (.there (.there (.there .here))))) (Rems.nil)), ?_⟩
    exact ⟨_, _, rfl, rfl⟩

end Go.Proofs.Ytcmlghemanjaaaa
