/- Walks of package share: the pass. Conditions: as the theorems say. -/
import Derived.Test.YtcmlghemanjaaaaShareWalks4
set_option linter.unusedVariables false
set_option linter.unusedSimpArgs false
set_option maxRecDepth 10000
namespace Go.Proofs.Ytcmlghemanjaaaa
open Go Go.RowKit Sl Pg

set_option maxRecDepth 100000
theorem ca18 : Callable Go.Proofs.Try.prog 18 := by unfold Callable; kernel_rfl
theorem pl29 : Places Go.Proofs.Try.prog 29 [(0, 1), (1, 1), (2, 1), (3, 1)] := ⟨_, Go.Proofs.Try.underlying29, by kernel_rfl⟩
theorem pl50 : Places Go.Proofs.Try.prog 50 [(0, 1), (1, 1), (2, 1), (3, 1), (4, 1)] := ⟨_, Go.Proofs.Try.underlying50, by kernel_rfl⟩
theorem sz26 : (Go.Proofs.Try.prog.info? 26).map (·.size) = some 1 := by kernel_rfl
theorem sz29 : (Go.Proofs.Try.prog.info? 29).map (·.size) = some 4 := by kernel_rfl
theorem ze29 : TyZ Go.Proofs.Try.prog 29 (.agg #[(.int .i64 0), (.int .i64 0), (.slice none 0 0), (.slice none 0 0)]) 4 64 := by unfold TyZ; kernel_rfl
set_option maxRecDepth 10000

set_option maxHeartbeats 2000000 in
theorem sharePass_w (p : Prg) (A : Option Addr) (n : Nat) (Bo : Option Addr) (m : Nat) (hv : Right p) :
    Tri Try.prog 10 #[vPg p A n Bo m] [roE encIn A p.code, roE (encI .i64) Bo p.outs] [] (fun v L' => ∃ C k D j, v = .tuple #[vPg (passP p) C k D j, .int .i64 0] ∧ L' = [rowE encIn 50 C k (passP p).code, rowE (encI .i64) 3 D j (passP p).outs]) := by
  have hp1 := hv.ins1
  have hp2 := hv.ins2
  have hp3 := hv.regs
  have hp4 := hv.code
  have hp5 := hv.outs2
  refine Tri.of' 106 [vPg p A n Bo m] [(0, vPg p A n Bo m)] Try.func10 Try.ntmps10 rfl rfl rfl ?_
  intro w0
  refine H.seq ?_
  refine H.region ?_
  refine HO.box rfl rfl (ltn rfl) ?_
  intro b1
  refine HO.alloc ze29 rfl (ltn rfl) ?_
  intro b2
  refine HO.v (V.assign rfl) (ltn rfl) ?_
  refine HO.nil ?_
  refine HQ.next ?_
  refine H.seq ?_
  refine H.seq ?_
  refine H.region ?_
  refine HO.v (V.loadA ag29 rfl (by exact .mk (.there .here) (by repeat constructor))) (ltn rfl) ?_
  refine HO.call ca15 (.cons rfl (.nil)) (check_w p A n Bo m hv) (by exact Rems.nil) (by (refine Reads.ro (.head _) ?_); (refine Reads.ro (.tail _ (.head _)) ?_); exact Reads.nil) (ltn rfl) ?_
  rintro v17 L17 ⟨rfl, rfl⟩
  dsimp only [List.nil_append, List.cons_append]
  refine HO.v (V.move rfl) (ltn rfl) ?_
  refine HO.v (V.extract rfl rfl) (ltn rfl) ?_
  refine HO.v (V.extract rfl rfl) (ltn rfl) ?_
  refine HO.v (V.assign rfl) (ltn rfl) ?_
  refine HO.v (V.assign rfl) (ltn rfl) ?_
  refine HO.nil ?_
  refine HQ.keep (.cons (t := 1) rfl (.cons (t := 2) rfl (.cons (t := 3) rfl (.cons (t := 5) rfl (.nil))))) ?_
  refine HQ.next ?_
  refine H.seq ?_
  refine H.region ?_
  refine HO.v (V.move rfl) (ltn rfl) ?_
  refine HO.v (V.neqI rfl rfl) (ltn rfl) ?_
  refine HO.nil ?_
  refine HQ.next ?_
  refine H.condF rfl (by rfl) ?_
  refine H.skip ?_
  refine HQ.next ?_
  refine H.seq ?_
  refine H.region ?_
  refine HO.v (V.loadA ag29 rfl (by exact .mk (.there .here) (by repeat constructor))) (ltn rfl) ?_
  refine HO.call ca16 (.cons rfl (.nil)) (newTable_w p A n Bo m hv.ins1 hv.ins2 hv.regs) (by exact Rems.nil) (by exact Reads.nil) (ltn rfl) ?_
  rintro v25 L25 ⟨bT, Ha, hc, q1, q2, rfl, rfl⟩
  dsimp only [List.nil_append, List.cons_append]
  refine HO.v (V.assign rfl) (ltn rfl) ?_
  refine HO.nil ?_
  refine HQ.keep (.cons (t := 1) rfl (.cons (t := 2) rfl (.cons (t := 3) rfl (.cons (t := 6) rfl (.nil))))) ?_
  refine HQ.next ?_
  refine H.seq ?_
  refine H.region ?_
  refine HO.v (V.fieldAddr (fs := #[]) fa29_0 rfl) (ltn rfl) ?_
  refine HO.v (V.load sc3 rfl (by exact .mk (.there (.there (.there (.there (.there .here))))) rfl)) (ltn rfl) ?_
  refine HO.v (V.fieldAddr (fs := #[]) fa29_1 rfl) (ltn rfl) ?_
  refine HO.v (V.load sc3 rfl (by exact .mk (.there (.there (.there (.there (.there .here))))) rfl)) (ltn rfl) ?_
  refine HO.v (V.build ze29 pl29 rfl (.cons rfl (.cons rfl (.nil))) (.cons rfl rfl rfl (by repeat constructor) (.cons rfl rfl rfl (by repeat constructor) (.nil)))) (ltn rfl) ?_
  refine HO.alloc ze29 rfl (ltn rfl) ?_
  intro b7
  refine HO.store sz29 rfl rfl rfl rfl rfl (by exact .mk .here (by repeat constructor)) ?_
  refine HO.nil ?_
  refine HQ.keep (.cons (t := 1) rfl (.cons (t := 2) rfl (.cons (t := 3) rfl (.cons (t := 6) rfl (.cons (t := 7) rfl (.nil)))))) ?_
  refine HQ.next ?_
  refine H.seq ?_
  refine H.seq ?_
  refine H.region ?_
  refine HO.v (V.fieldAddr (fs := #[]) fa29_2 rfl) (ltn rfl) ?_
  refine HO.v (V.load sc26 rfl (by exact .mk (.there (.there (.there (.there (.there (.there .here)))))) rfl)) (ltn rfl) ?_
  refine HO.v (V.len Try.underlying26 rfl) (ltn rfl) ?_
  refine HO.v (V.move rfl) (ltn rfl) ?_
  refine HO.nil ?_
  refine HQ.keep (.cons (t := 1) rfl (.cons (t := 2) rfl (.cons (t := 3) rfl (.cons (t := 6) rfl (.cons (t := 7) rfl (.cons (t := 32) rfl (.cons (t := 33) rfl (.cons (t := 34) rfl (.nil))))))))) ?_
  refine HQ.next ?_
  refine H.block ?_
  refine H.loop (σ := Nat × Option Addr × Nat) (fun s => p.code.length - s.1) (fun s => [(1, .pointer (some ⟨b1, 0, none⟩)), (2, .pointer (some ⟨b2, 0, none⟩)), (6, .pointer (some ⟨bT, 0, none⟩)), (7, .pointer (some ⟨b7, 0, none⟩)), (32, .slice A p.code.length n), (33, .int .i64 ((p.code.length : Nat) : Int)), (34, .int .i64 ((s.1 : Nat) : Int))]) (fun s => [cellsCh b1 29 [.int .i64 p.ins, .int .i64 p.regs, .slice A p.code.length n, .slice Bo p.outs.length m], cellsCh b2 29 [.int .i64 0, .int .i64 0, .slice none 0 0, .slice none 0 0], tabCell bT Ha (run p (p.code.take s.1)).t.held.length hc q1 q2 (run p (p.code.take s.1)).t.next, rowE (encI .i64) 3 Ha hc (run p (p.code.take s.1)).t.held, tabMap q1 (run p (p.code.take s.1)).t.known, tabMap q2 (run p (p.code.take s.1)).t.first, cellsCh b7 29 [.int .i64 p.ins, .int .i64 p.regs, .slice s.2.1 (run p (p.code.take s.1)).code.length s.2.2, .slice none ([] : List Int).length 0], rowE encIn 50 s.2.1 s.2.2 (run p (p.code.take s.1)).code]) (fun s => s.1 ≤ p.code.length) ((0, none, 0)) ?_ ?_ ?_
  · exact Nat.zero_le _
  · skip
    refine HQ.free (rowE encIn 50 none 0 ([] : List Ins)) rfl (fun w => OwnRow.nil w 50 5) ?_
    exact HQ.fits (.cons rfl (.cons rfl (.cons rfl (.cons rfl (.cons rfl (.cons rfl (.cons rfl (.nil)))))))) (by exact Rems.cons (by exact (.there (.there (.there (.there (.there (.there (.there .here)))))))) (Rems.cons (by exact (.there (.there (.there (.there (.there (.there .here))))))) (Rems.cons (by exact (.there (.there .here))) (Rems.cons (by exact (.there (.there .here))) (Rems.cons (by exact (.there (.there .here))) (Rems.cons (by exact (.there (.there .here))) (Rems.cons (by exact (.there .here)) (Rems.cons (by exact .here) (Rems.nil)))))))))
  rintro ⟨k, Ck, ck⟩ hk
  dsimp only at hk ⊢
  refine H.seq ?_
  refine H.region ?_
  refine HO.v (V.lss rfl rfl) (ltn rfl) ?_
  refine HO.nil ?_
  refine HQ.next ?_
  refine H.seq ?_
  refine H.condB rfl (fun h35 => ?_) (fun h35 => ?_)
  · skip
    try simp only [decide_eq_true_eq, decide_eq_false_iff_not, Bool.not_eq_true', Bool.not_eq_false'] at h35
    obtain ⟨i, hi⟩ : ∃ i, p.code[k]? = some i := ⟨_, List.getElem?_eq_getElem (by omega)⟩
    have hmi := hv.may i (List.mem_of_getElem? hi)
    have hto0 := hmi.to0
    have hto1 := hmi.to1
    obtain ⟨s, hs⟩ : ∃ s, run p (p.code.take k) = s := ⟨_, rfl⟩
    have hf := prefix_fine hv hs
    have hln := hf.len
    have hsv := run_vals p (p.code.take k)
    rw [hs] at hsv
    have htl : (p.code.take k).length = k := by (simp; omega)
    have hat := at_some (l := s.t.held) hto0 (by omega)
    have hto2 : i.to < s.t.held.length := by omega
    rw [hs]
    refine H.skip ?_
    refine HQ.next ?_
    refine H.seq ?_
    refine H.block ?_
    refine H.seq ?_
    refine H.region ?_
    refine HO.v (V.move rfl) (ltn rfl) ?_
    refine HO.v (V.indexAddr (N := encIn) (ys := _) Try.underlying26 sz50 rfl rfl (by omega) (by omega) (by exact Has.ro (.head _))) (ltn rfl) ?_
    refine HO.v (V.loadEA (N := encIn) ag50 rfl (by exact .mk (Has.ro (.head _)) (hi) rfl)) (ltn rfl) ?_
    refine HO.alloc ze50 rfl (ltn rfl) ?_
    intro b9
    refine HO.v (V.assign rfl) (ltn rfl) ?_
    refine HO.store sz50 rfl rfl rfl rfl rfl (by exact .mk .here (by repeat constructor)) ?_
    refine HO.nil ?_
    refine HQ.next ?_
    refine H.seq ?_
    refine H.region ?_
    refine HO.v (V.move rfl) (ltn rfl) ?_
    refine HO.v (V.move rfl) (ltn rfl) ?_
    refine HO.v (V.loadA ag50 rfl (by exact .mk .here (by repeat constructor))) (ltn rfl) ?_
    refine HO.call ca17 (.cons rfl (.cons rfl (.cons rfl (.nil)))) (reckon_w bT Ha hc q1 q2 s.t k i p.regs (p.ins + 1 + 16384) hf (by omega) hv.regs hmi) (by exact Rems.cons (by exact (.there (.there (.there .here)))) (Rems.cons (by exact (.there (.there (.there .here)))) (Rems.cons (by exact (.there (.there (.there .here)))) (Rems.cons (by exact (.there (.there (.there .here)))) (Rems.nil))))) (by exact Reads.nil) (ltn rfl) ?_
    rintro v43 L43 ⟨rfl, rfl⟩
    dsimp only [List.nil_append, List.cons_append]
    refine HO.v (V.move rfl) (ltn rfl) ?_
    refine HO.v (V.extract rfl rfl) (ltn rfl) ?_
    refine HO.v (V.extract rfl rfl) (ltn rfl) ?_
    refine HO.v (V.assign rfl) (ltn rfl) ?_
    refine HO.v (V.assign rfl) (ltn rfl) ?_
    refine HO.nil ?_
    refine HQ.keep (.cons (t := 1) rfl (.cons (t := 2) rfl (.cons (t := 6) rfl (.cons (t := 7) rfl (.cons (t := 8) rfl (.cons (t := 9) rfl (.cons (t := 10) rfl (.cons (t := 32) rfl (.cons (t := 33) rfl (.cons (t := 34) rfl (.cons (t := 35) rfl (.cons (t := 36) rfl (.cons (t := 37) rfl (.cons (t := 38) rfl (.cons (t := 39) rfl (.cons (t := 40) rfl (.cons (t := 41) rfl (.cons (t := 42) rfl (.cons (t := 43) rfl (.cons (t := 44) rfl (.cons (t := 45) rfl (.nil)))))))))))))))))))))) ?_
    refine HQ.next ?_
    refine H.seq ?_
    refine H.region ?_
    refine HO.v (V.move rfl) (ltn rfl) ?_
    refine HO.v (V.loadA ag50 rfl (by exact .mk (.there (.there (.there (.there .here)))) (by repeat constructor))) (ltn rfl) ?_
    refine HO.call ca18 (.cons rfl (.cons rfl (.nil))) (asked_w bT Ha hc q1 q2 _ s.t.held i (by omega) hmi.op1 hmi.op8 ⟨(may_a hmi).1, by have := may_a hmi; omega⟩ (fun h => by have := may_b hmi h; omega)) (by exact Rems.nil) (by (refine Reads.own (.head _) ?_); (refine Reads.row (.tail _ (.head _)) ?_); exact Reads.nil) (ltn rfl) ?_
    rintro v48 L48 ⟨rfl, rfl⟩
    dsimp only [List.nil_append, List.cons_append]
    refine HO.store sz50 rfl rfl rfl rfl rfl (by exact .mk (.there (.there (.there (.there .here)))) (by repeat constructor)) ?_
    refine HO.nil ?_
    refine HQ.next ?_
    refine H.seq ?_
    refine H.seq ?_
    refine H.drawsP [tabCell bT _ _ _ _ _ _, rowE (encI .i64) 3 Ha hc _, cellsCh b9 _ _] [] [[], [0], [1], [2], [], [4], [3, 5], [6], [], [7, 8]] (.take 0 (.take 1 (.take 2 (.take 3 (.take 4 (.take 5 (.take 6 (.take 7 (.take 8 (.take 9 .done)))))))))) (.cons (by exact (.tail _ (.head _))) (.cons (by exact (.tail _ (.tail _ (.head _)))) (.cons (by exact (.head _)) (.nil)))) (by kernel_rfl) (by kernel_rfl) (by kernel_rfl) (by kernel_rfl) (by kernel_rfl) ?_
    refine HP.take (i := 0) rfl rfl (ltn rfl) (gives_of want_none (V.move rfl)) (.cons (by exact (.tail _ (.head _))) (.cons (by exact (.tail _ (.tail _ (.head _)))) (.cons (by exact (.head _)) (Sub.nil)))) ?_
    refine HP.take (i := 1) rfl rfl (ltn rfl) (gives_of want_none (V.nilCheck rfl)) (.cons (by exact (.tail _ (.head _))) (.cons (by exact (.tail _ (.tail _ (.head _)))) (.cons (by exact (.head _)) (Sub.nil)))) ?_
    refine HP.take (i := 2) rfl rfl (ltn rfl) (gives_of want_none (V.fieldAddr (fs := #[]) fa64_0 rfl)) (.cons (by exact (.tail _ (.head _))) (.cons (by exact (.tail _ (.tail _ (.head _)))) (.cons (by exact (.head _)) (Sub.nil)))) ?_
    refine HP.take (i := 3) rfl rfl (ltn rfl) (gives_of want_none (V.load sc27 rfl (by exact .mk .here rfl))) (.cons (by exact (.tail _ (.head _))) (.cons (by exact (.tail _ (.tail _ (.head _)))) (.cons (by exact (.head _)) (Sub.nil)))) ?_
    refine HP.take (i := 4) rfl rfl (ltn rfl) (gives_of want_none (V.fieldAddr (fs := #[]) fa50_1 rfl)) (.cons (by exact (.tail _ (.head _))) (.cons (by exact (.tail _ (.tail _ (.head _)))) (.cons (by exact (.head _)) (Sub.nil)))) ?_
    refine HP.take (i := 5) rfl rfl (ltn rfl) (gives_of want_none (V.load sc3 rfl (by exact .mk (.there (.there .here)) rfl))) (.cons (by exact (.tail _ (.head _))) (.cons (by exact (.tail _ (.tail _ (.head _)))) (.cons (by exact (.head _)) (Sub.nil)))) ?_
    refine HP.take (i := 6) rfl rfl (ltn rfl) (gives_of want_none (V.indexAddr (N := (encI .i64)) (ys := _) Try.underlying27 sz3 rfl rfl (by first | exact hto0 | exact hto2 | omega) (by first | exact hto0 | exact hto2 | omega) (by exact Has.own (.there .here)))) (.cons (by exact (.tail _ (.head _))) (.cons (by exact (.tail _ (.tail _ (.head _)))) (.cons (by exact (.head _)) (Sub.nil)))) ?_
    refine HP.take (i := 7) rfl rfl (ltn rfl) (gives_of want_none (V.loadE (N := (encI .i64)) sc3 rfl (by exact .mk (Has.own (.there .here)) (hat) rfl))) (.cons (by exact (.tail _ (.head _))) (.cons (by exact (.tail _ (.tail _ (.head _)))) (.cons (by exact (.head _)) (Sub.nil)))) ?_
    refine HP.take (i := 8) rfl rfl (ltn rfl) (gives_of want_none (V.move rfl)) (.cons (by exact (.tail _ (.head _))) (.cons (by exact (.tail _ (.tail _ (.head _)))) (.cons (by exact (.head _)) (Sub.nil)))) ?_
    refine HP.take (i := 9) rfl rfl (ltn rfl) (gives_of want_none (V.eqlI rfl rfl)) (.cons (by exact (.tail _ (.head _))) (.cons (by exact (.tail _ (.tail _ (.head _)))) (.cons (by exact (.head _)) (Sub.nil)))) ?_
    refine HP.done ?_
    refine HQ.next ?_
    refine H.condB rfl (fun h58 => ?_) (fun h58 => ?_)
    · skip
      try simp only [decide_eq_true_eq, decide_eq_false_iff_not, Bool.not_eq_true', Bool.not_eq_false'] at h58
      refine H.exit ?_
      refine HQ.then_exit ?_
      refine HQ.exit_hit ?_
      refine HQ.next ?_
      refine H.region ?_
      obtain ⟨e1, e2, e3, e4, e5, e6, e7⟩ := step_all hs hi hto0 (by omega)
      have e8 := code_eq hs hi h58
      rw [show (reckon s.t k i).1 = at_ s.t.held i.to from h58.symm, set_at hto0 hto2] at e4
      rw [e1, e2, e3, e4, e8]
      refine HO.v (V.add rfl rfl (by omega)) (ltn rfl) ?_
      refine HO.v (V.move rfl) (ltn rfl) ?_
      refine HO.nil ?_
      refine HQ.round ((k + 1, Ck, ck)) ?_ ?_ ?_
      · (dsimp only; omega)
      · (dsimp only; omega)
      · skip
        exact HQ.fits (.cons rfl (.cons rfl (.cons rfl (.cons rfl (.cons rfl (.cons rfl (.cons rfl (.nil)))))))) (by exact Rems.cons (by exact (.there (.there (.there (.there (.there .here)))))) (Rems.cons (by exact (.there (.there (.there (.there (.there .here)))))) (Rems.cons (by exact (.there .here)) (Rems.cons (by exact (.there .here)) (Rems.cons (by exact (.there .here)) (Rems.cons (by exact (.there .here)) (Rems.cons (by exact (.there .here)) (Rems.cons (by exact (.there .here)) (Rems.nil)))))))))
    · skip
      try simp only [decide_eq_true_eq, decide_eq_false_iff_not, Bool.not_eq_true', Bool.not_eq_false'] at h58
      refine H.skip ?_
      refine HQ.next ?_
      refine H.seq ?_
      refine H.seq ?_
      refine H.region ?_
      refine HO.v (V.move rfl) (ltn rfl) ?_
      refine HO.v (V.move rfl) (ltn rfl) ?_
      refine HO.call ca19 (.cons rfl (.cons rfl (.nil))) (holder_w bT Ha hc q1 q2 _ s.t.held _ (by omega)) (by exact Rems.nil) (by (refine Reads.own (.tail _ (.head _)) ?_); (refine Reads.row (.tail _ (.tail _ (.head _))) ?_); exact Reads.nil) (ltn rfl) ?_
      rintro v61 L61 ⟨rfl, rfl⟩
      dsimp only [List.nil_append, List.cons_append]
      refine HO.v (V.assign rfl) (ltn rfl) ?_
      refine HO.nil ?_
      refine HQ.next ?_
      refine H.seq ?_
      refine H.region ?_
      refine HO.v (V.move rfl) (ltn rfl) ?_
      refine HO.v (V.geq rfl rfl) (ltn rfl) ?_
      refine HO.nil ?_
      refine HQ.next ?_
      refine H.condB rfl (fun h63 => ?_) (fun h63 => ?_)
      · skip
        try simp only [decide_eq_true_eq, decide_eq_false_iff_not, Bool.not_eq_true', Bool.not_eq_false'] at h63
        refine H.region ?_
        refine HO.v (V.fieldAddr (fs := #[]) fa50_1 rfl) (ltn rfl) ?_
        refine HO.v (V.load sc3 rfl (by exact .mk .here rfl)) (ltn rfl) ?_
        refine HO.v (V.move rfl) (ltn rfl) ?_
        refine HO.v (V.build ze50 pl50 rfl (.cons rfl (.cons rfl (.cons rfl (.nil)))) (.cons rfl rfl rfl (by repeat constructor) (.cons rfl rfl rfl (by repeat constructor) (.cons rfl rfl rfl (by repeat constructor) (.nil))))) (ltn rfl) ?_
        refine HO.store sz50 rfl rfl rfl rfl rfl (by exact .mk .here (by repeat constructor)) ?_
        refine HO.nil ?_
        refine HQ.next ?_
        refine H.seq ?_
        refine H.region ?_
        refine HO.v (V.fieldAddr (fs := #[]) fa29_2 rfl) (ltn rfl) ?_
        refine HO.v (V.load sc26 rfl (by exact .mk (.there (.there (.there (.there (.there (.there (.there .here))))))) rfl)) (ltn rfl) ?_
        refine HO.v (V.loadA ag50 rfl (by exact .mk .here (by repeat constructor))) (ltn rfl) ?_
        refine HO.buildRow encIn ([⟨1, i.to, holder s.t.held (reckon s.t k i).1, 0, 0⟩]) Try.underlying26 ze50 (.cons rfl (.nil)) (.cons rfl (.nil)) (Nat.le_of_ble_eq_true rfl) (Nat.le_of_ble_eq_true rfl) (ltn rfl) ?_
        intro b71
        refine HO.append (N := encIn) (zs := [⟨1, i.to, holder s.t.held (reckon s.t k i).1, 0, 0⟩]) Try.underlying26 ze50 rfl rfl rfl (by exact (.there (.there (.there (.there (.there (.there (.there (.there (.there .here)))))))))) (by exact Has.own .here) (by first | omega | (simp; omega)) (by decide) (ltn rfl) ?_
        intro A72 c72
        refine HO.v (V.fieldAddr (fs := #[]) fa29_2 rfl) (ltn rfl) ?_
        refine HO.store sz26 rfl rfl rfl rfl rfl (by exact .mk (.there (.there (.there (.there (.there (.there (.there (.there (.there .here))))))))) (by repeat constructor)) ?_
        refine HO.nil ?_
        refine HQ.next ?_
        refine H.drawsP [tabCell bT _ _ _ _ _ _, rowE (encI .i64) 3 Ha hc _, cellsCh b9 _ _] [8] [[], [0], [1], [2], [], [4], [], [3, 5, 0, 1, 2, 3, 4, 5, 6], [7, 6, 0, 1, 2, 3, 4, 5, 6]] (.take 0 (.take 1 (.take 2 (.take 3 (.take 4 (.take 5 (.take 6 (.take 7 (.one 8 .done))))))))) (.cons (by exact (.tail _ (.tail _ (.tail _ (.tail _ (.head _)))))) (.cons (by exact (.tail _ (.tail _ (.tail _ (.tail _ (.tail _ (.head _))))))) (.cons (by exact (.tail _ (.tail _ (.tail _ (.head _))))) (.nil)))) (by kernel_rfl) (by kernel_rfl) (by kernel_rfl) (by kernel_rfl) (by kernel_rfl) ?_
        refine HP.take (i := 0) rfl rfl (ltn rfl) (gives_of want_none (V.move rfl)) (.cons (by exact (.tail _ (.tail _ (.tail _ (.tail _ (.head _)))))) (.cons (by exact (.tail _ (.tail _ (.tail _ (.tail _ (.tail _ (.head _))))))) (.cons (by exact (.tail _ (.tail _ (.tail _ (.head _))))) (Sub.nil)))) ?_
        refine HP.take (i := 1) rfl rfl (ltn rfl) (gives_of want_none (V.nilCheck rfl)) (.cons (by exact (.tail _ (.tail _ (.tail _ (.tail _ (.head _)))))) (.cons (by exact (.tail _ (.tail _ (.tail _ (.tail _ (.tail _ (.head _))))))) (.cons (by exact (.tail _ (.tail _ (.tail _ (.head _))))) (Sub.nil)))) ?_
        refine HP.take (i := 2) rfl rfl (ltn rfl) (gives_of want_none (V.fieldAddr (fs := #[]) fa64_0 rfl)) (.cons (by exact (.tail _ (.tail _ (.tail _ (.tail _ (.head _)))))) (.cons (by exact (.tail _ (.tail _ (.tail _ (.tail _ (.tail _ (.head _))))))) (.cons (by exact (.tail _ (.tail _ (.tail _ (.head _))))) (Sub.nil)))) ?_
        refine HP.take (i := 3) rfl rfl (ltn rfl) (gives_of want_none (V.load sc27 rfl (by exact .mk .here rfl))) (.cons (by exact (.tail _ (.tail _ (.tail _ (.tail _ (.head _)))))) (.cons (by exact (.tail _ (.tail _ (.tail _ (.tail _ (.tail _ (.head _))))))) (.cons (by exact (.tail _ (.tail _ (.tail _ (.head _))))) (Sub.nil)))) ?_
        refine HP.take (i := 4) rfl rfl (ltn rfl) (gives_of want_none (V.fieldAddr (fs := #[]) fa50_1 rfl)) (.cons (by exact (.tail _ (.tail _ (.tail _ (.tail _ (.head _)))))) (.cons (by exact (.tail _ (.tail _ (.tail _ (.tail _ (.tail _ (.head _))))))) (.cons (by exact (.tail _ (.tail _ (.tail _ (.head _))))) (Sub.nil)))) ?_
        refine HP.take (i := 5) rfl rfl (ltn rfl) (gives_of want_none (V.load sc3 rfl (by exact .mk (.there (.there .here)) rfl))) (.cons (by exact (.tail _ (.tail _ (.tail _ (.tail _ (.head _)))))) (.cons (by exact (.tail _ (.tail _ (.tail _ (.tail _ (.tail _ (.head _))))))) (.cons (by exact (.tail _ (.tail _ (.tail _ (.head _))))) (Sub.nil)))) ?_
        refine HP.take (i := 6) rfl rfl (ltn rfl) (gives_of want_none (V.move rfl)) (.cons (by exact (.tail _ (.tail _ (.tail _ (.tail _ (.head _)))))) (.cons (by exact (.tail _ (.tail _ (.tail _ (.tail _ (.tail _ (.head _))))))) (.cons (by exact (.tail _ (.tail _ (.tail _ (.head _))))) (Sub.nil)))) ?_
        refine HP.take (i := 7) rfl rfl (ltn rfl) (gives_of want_none (V.indexAddr (N := (encI .i64)) (ys := _) Try.underlying27 sz3 rfl rfl (by first | exact hto0 | exact hto2 | omega) (by first | exact hto0 | exact hto2 | omega) (by exact Has.own (.there .here)))) (.cons (by exact (.tail _ (.tail _ (.tail _ (.tail _ (.head _)))))) (.cons (by exact (.tail _ (.tail _ (.tail _ (.tail _ (.tail _ (.head _))))))) (.cons (by exact (.tail _ (.tail _ (.tail _ (.head _))))) (Sub.nil)))) ?_
        refine HP.one (i := 8) rfl ?_
        intro fuel listed hno haf hrp hpk hfs
        refine HO.storeS (N := (encI .i64)) (z := _) sz3 rfl rfl rfl (by exact .mk (.there (.there (.there (.there (.there .here))))) (by first | omega | (show i.to.toNat < _; omega))) ?_
        refine HO.nil ?_
        refine HQ.nxtF (m := 8) hno haf hrp hpk hfs (by decide) (by kernel_rfl) rfl ?_
        refine HP.done ?_
        refine HQ.block_normal ?_
        refine HQ.next ?_
        refine H.region ?_
        obtain ⟨e1, e2, e3, e4, e5, e6, e7⟩ := step_all hs hi hto0 (by omega)
        have e8 := code_move hs hi h58 h63
        rw [e1, e2, e3, show s.t.held.set (asked s.t.held i).to.toNat (reckon s.t k i).1 = (run p (p.code.take (k + 1))).t.held from e4, e5]
        rw [e8]
        refine HO.v (V.add rfl rfl (by omega)) (ltn rfl) ?_
        refine HO.v (V.move rfl) (ltn rfl) ?_
        refine HO.nil ?_
        refine HQ.round ((k + 1, A72, c72)) ?_ ?_ ?_
        · (dsimp only; omega)
        · (dsimp only; omega)
        · skip
          exact HQ.fits (.cons rfl (.cons rfl (.cons rfl (.cons rfl (.cons rfl (.cons rfl (.cons rfl (.nil)))))))) (by exact Rems.cons (by exact (.there (.there (.there (.there (.there (.there (.there (.there .here))))))))) (Rems.cons (by exact (.there (.there (.there (.there (.there (.there (.there (.there .here))))))))) (Rems.cons (by exact (.there (.there (.there (.there (.there .here)))))) (Rems.cons (by exact .here) (Rems.cons (by exact (.there (.there (.there (.there .here))))) (Rems.cons (by exact (.there (.there (.there (.there .here))))) (Rems.cons (by exact .here) (Rems.cons (by exact .here) (Rems.nil)))))))))
      · skip
        try simp only [decide_eq_true_eq, decide_eq_false_iff_not, Bool.not_eq_true', Bool.not_eq_false'] at h63
        refine H.skip ?_
        refine HQ.next ?_
        refine H.seq ?_
        refine H.region ?_
        refine HO.v (V.fieldAddr (fs := #[]) fa29_2 rfl) (ltn rfl) ?_
        refine HO.v (V.load sc26 rfl (by exact .mk (.there (.there (.there (.there (.there (.there (.there .here))))))) rfl)) (ltn rfl) ?_
        refine HO.v (V.loadA ag50 rfl (by exact .mk .here (by repeat constructor))) (ltn rfl) ?_
        refine HO.buildRow encIn ([asked s.t.held i]) Try.underlying26 ze50 (.cons rfl (.nil)) (.cons rfl (.nil)) (Nat.le_of_ble_eq_true rfl) (Nat.le_of_ble_eq_true rfl) (ltn rfl) ?_
        intro b71
        refine HO.append (N := encIn) (zs := [asked s.t.held i]) Try.underlying26 ze50 rfl rfl rfl (by exact (.there (.there (.there (.there (.there (.there (.there (.there (.there .here)))))))))) (by exact Has.own .here) (by first | omega | (simp; omega)) (by decide) (ltn rfl) ?_
        intro A72 c72
        refine HO.v (V.fieldAddr (fs := #[]) fa29_2 rfl) (ltn rfl) ?_
        refine HO.store sz26 rfl rfl rfl rfl rfl (by exact .mk (.there (.there (.there (.there (.there (.there (.there (.there (.there .here))))))))) (by repeat constructor)) ?_
        refine HO.nil ?_
        refine HQ.next ?_
        refine H.drawsP [tabCell bT _ _ _ _ _ _, rowE (encI .i64) 3 Ha hc _, cellsCh b9 _ _] [8] [[], [0], [1], [2], [], [4], [], [3, 5, 0, 1, 2, 3, 4, 5, 6], [7, 6, 0, 1, 2, 3, 4, 5, 6]] (.take 0 (.take 1 (.take 2 (.take 3 (.take 4 (.take 5 (.take 6 (.take 7 (.one 8 .done))))))))) (.cons (by exact (.tail _ (.tail _ (.tail _ (.tail _ (.head _)))))) (.cons (by exact (.tail _ (.tail _ (.tail _ (.tail _ (.tail _ (.head _))))))) (.cons (by exact (.tail _ (.tail _ (.tail _ (.head _))))) (.nil)))) (by kernel_rfl) (by kernel_rfl) (by kernel_rfl) (by kernel_rfl) (by kernel_rfl) ?_
        refine HP.take (i := 0) rfl rfl (ltn rfl) (gives_of want_none (V.move rfl)) (.cons (by exact (.tail _ (.tail _ (.tail _ (.tail _ (.head _)))))) (.cons (by exact (.tail _ (.tail _ (.tail _ (.tail _ (.tail _ (.head _))))))) (.cons (by exact (.tail _ (.tail _ (.tail _ (.head _))))) (Sub.nil)))) ?_
        refine HP.take (i := 1) rfl rfl (ltn rfl) (gives_of want_none (V.nilCheck rfl)) (.cons (by exact (.tail _ (.tail _ (.tail _ (.tail _ (.head _)))))) (.cons (by exact (.tail _ (.tail _ (.tail _ (.tail _ (.tail _ (.head _))))))) (.cons (by exact (.tail _ (.tail _ (.tail _ (.head _))))) (Sub.nil)))) ?_
        refine HP.take (i := 2) rfl rfl (ltn rfl) (gives_of want_none (V.fieldAddr (fs := #[]) fa64_0 rfl)) (.cons (by exact (.tail _ (.tail _ (.tail _ (.tail _ (.head _)))))) (.cons (by exact (.tail _ (.tail _ (.tail _ (.tail _ (.tail _ (.head _))))))) (.cons (by exact (.tail _ (.tail _ (.tail _ (.head _))))) (Sub.nil)))) ?_
        refine HP.take (i := 3) rfl rfl (ltn rfl) (gives_of want_none (V.load sc27 rfl (by exact .mk .here rfl))) (.cons (by exact (.tail _ (.tail _ (.tail _ (.tail _ (.head _)))))) (.cons (by exact (.tail _ (.tail _ (.tail _ (.tail _ (.tail _ (.head _))))))) (.cons (by exact (.tail _ (.tail _ (.tail _ (.head _))))) (Sub.nil)))) ?_
        refine HP.take (i := 4) rfl rfl (ltn rfl) (gives_of want_none (V.fieldAddr (fs := #[]) fa50_1 rfl)) (.cons (by exact (.tail _ (.tail _ (.tail _ (.tail _ (.head _)))))) (.cons (by exact (.tail _ (.tail _ (.tail _ (.tail _ (.tail _ (.head _))))))) (.cons (by exact (.tail _ (.tail _ (.tail _ (.head _))))) (Sub.nil)))) ?_
        refine HP.take (i := 5) rfl rfl (ltn rfl) (gives_of want_none (V.load sc3 rfl (by exact .mk (.there (.there .here)) rfl))) (.cons (by exact (.tail _ (.tail _ (.tail _ (.tail _ (.head _)))))) (.cons (by exact (.tail _ (.tail _ (.tail _ (.tail _ (.tail _ (.head _))))))) (.cons (by exact (.tail _ (.tail _ (.tail _ (.head _))))) (Sub.nil)))) ?_
        refine HP.take (i := 6) rfl rfl (ltn rfl) (gives_of want_none (V.move rfl)) (.cons (by exact (.tail _ (.tail _ (.tail _ (.tail _ (.head _)))))) (.cons (by exact (.tail _ (.tail _ (.tail _ (.tail _ (.tail _ (.head _))))))) (.cons (by exact (.tail _ (.tail _ (.tail _ (.head _))))) (Sub.nil)))) ?_
        refine HP.take (i := 7) rfl rfl (ltn rfl) (gives_of want_none (V.indexAddr (N := (encI .i64)) (ys := _) Try.underlying27 sz3 rfl rfl (by first | exact hto0 | exact hto2 | omega) (by first | exact hto0 | exact hto2 | omega) (by exact Has.own (.there .here)))) (.cons (by exact (.tail _ (.tail _ (.tail _ (.tail _ (.head _)))))) (.cons (by exact (.tail _ (.tail _ (.tail _ (.tail _ (.tail _ (.head _))))))) (.cons (by exact (.tail _ (.tail _ (.tail _ (.head _))))) (Sub.nil)))) ?_
        refine HP.one (i := 8) rfl ?_
        intro fuel listed hno haf hrp hpk hfs
        refine HO.storeS (N := (encI .i64)) (z := _) sz3 rfl rfl rfl (by exact .mk (.there (.there (.there (.there (.there .here))))) (by first | omega | (show i.to.toNat < _; omega))) ?_
        refine HO.nil ?_
        refine HQ.nxtF (m := 8) hno haf hrp hpk hfs (by decide) (by kernel_rfl) rfl ?_
        refine HP.done ?_
        refine HQ.block_normal ?_
        refine HQ.next ?_
        refine H.region ?_
        obtain ⟨e1, e2, e3, e4, e5, e6, e7⟩ := step_all hs hi hto0 (by omega)
        have e8 := code_ask hs hi h58 h63
        rw [e1, e2, e3, show s.t.held.set (asked s.t.held i).to.toNat (reckon s.t k i).1 = (run p (p.code.take (k + 1))).t.held from e4, e5]
        rw [e8]
        refine HO.v (V.add rfl rfl (by omega)) (ltn rfl) ?_
        refine HO.v (V.move rfl) (ltn rfl) ?_
        refine HO.nil ?_
        refine HQ.round ((k + 1, A72, c72)) ?_ ?_ ?_
        · (dsimp only; omega)
        · (dsimp only; omega)
        · skip
          exact HQ.fits (.cons rfl (.cons rfl (.cons rfl (.cons rfl (.cons rfl (.cons rfl (.cons rfl (.nil)))))))) (by exact Rems.cons (by exact (.there (.there (.there (.there (.there (.there (.there (.there .here))))))))) (Rems.cons (by exact (.there (.there (.there (.there (.there (.there (.there (.there .here))))))))) (Rems.cons (by exact (.there (.there (.there (.there (.there .here)))))) (Rems.cons (by exact .here) (Rems.cons (by exact (.there (.there (.there (.there .here))))) (Rems.cons (by exact (.there (.there (.there (.there .here))))) (Rems.cons (by exact .here) (Rems.cons (by exact .here) (Rems.nil)))))))))
  · skip
    try simp only [decide_eq_true_eq, decide_eq_false_iff_not, Bool.not_eq_true', Bool.not_eq_false'] at h35
    have hkl : p.code.take k = p.code := List.take_of_length_le (by omega)
    rw [hkl]
    have hf := run_fine hv.ins1 hv.ins2 hv.may
    have hln := hf.len
    have hsv := run_vals p p.code
    refine H.exit ?_
    refine HQ.then_exit ?_
    refine HQ.then_exit ?_
    refine HQ.exit_hit ?_
    refine HQ.keep (.cons (t := 1) rfl (.cons (t := 2) rfl (.cons (t := 6) rfl (.cons (t := 7) rfl (.nil))))) ?_
    refine HQ.next ?_
    refine H.seq ?_
    refine H.seq ?_
    refine H.region ?_
    refine HO.v (V.fieldAddr (fs := #[]) fa29_3 rfl) (ltn rfl) ?_
    refine HO.v (V.load sc27 rfl (by exact .mk .here rfl)) (ltn rfl) ?_
    refine HO.v (V.len Try.underlying27 rfl) (ltn rfl) ?_
    refine HO.v (V.move rfl) (ltn rfl) ?_
    refine HO.nil ?_
    refine HQ.keep (.cons (t := 2) rfl (.cons (t := 6) rfl (.cons (t := 7) rfl (.cons (t := 84) rfl (.cons (t := 85) rfl (.cons (t := 86) rfl (.nil))))))) ?_
    refine HQ.next ?_
    refine H.block ?_
    refine H.loop (σ := Nat × Option Addr × Nat) (fun s => p.outs.length - s.1) (fun s => [(2, .pointer (some ⟨b2, 0, none⟩)), (6, .pointer (some ⟨bT, 0, none⟩)), (7, .pointer (some ⟨b7, 0, none⟩)), (84, .slice Bo p.outs.length m), (85, .int .i64 ((p.outs.length : Nat) : Int)), (86, .int .i64 ((s.1 : Nat) : Int))]) (fun s => [cellsCh b2 29 [.int .i64 0, .int .i64 0, .slice none 0 0, .slice none 0 0], tabCell bT Ha (run p p.code).t.held.length hc q1 q2 (run p p.code).t.next, rowE (encI .i64) 3 Ha hc (run p p.code).t.held, tabMap q1 (run p p.code).t.known, tabMap q2 (run p p.code).t.first, cellsCh b7 29 [.int .i64 p.ins, .int .i64 p.regs, .slice Ck (run p p.code).code.length ck, .slice s.2.1 (outsOf (run p p.code) (p.outs.take s.1)).length s.2.2], rowE encIn 50 Ck ck (run p p.code).code, rowE (encI .i64) 3 s.2.1 s.2.2 (outsOf (run p p.code) (p.outs.take s.1))]) (fun s => s.1 ≤ p.outs.length) ((0, none, 0)) ?_ ?_ ?_
    · exact Nat.zero_le _
    · skip
      refine HQ.free (rowE (encI .i64) 3 none 0 ([] : List Int)) rfl (fun w => OwnRow.nil w 3 1) ?_
      exact HQ.fits (.cons rfl (.cons rfl (.cons rfl (.cons rfl (.cons rfl (.cons rfl (.nil))))))) (by exact Rems.cons (by exact (.there (.there .here))) (Rems.cons (by exact (.there (.there .here))) (Rems.cons (by exact (.there (.there .here))) (Rems.cons (by exact (.there (.there .here))) (Rems.cons (by exact (.there (.there .here))) (Rems.cons (by exact (.there (.there .here))) (Rems.cons (by exact (.there (.there .here))) (Rems.cons (by exact .here) (Rems.nil)))))))))
    rintro ⟨q, Dq, dq⟩ hq
    dsimp only at hq ⊢
    have hol : (outsOf (run p p.code) (p.outs.take q)).length = q := by (simp [outsOf]; omega)
    refine H.seq ?_
    refine H.region ?_
    refine HO.v (V.lss rfl rfl) (ltn rfl) ?_
    refine HO.nil ?_
    refine HQ.next ?_
    refine H.seq ?_
    refine H.condB rfl (fun h87 => ?_) (fun h87 => ?_)
    · skip
      try simp only [decide_eq_true_eq, decide_eq_false_iff_not, Bool.not_eq_true', Bool.not_eq_false'] at h87
      obtain ⟨r, hr⟩ : ∃ r, p.outs[q]? = some r := ⟨_, List.getElem?_eq_getElem (by omega)⟩
      have hrb := hv.outs r (List.mem_of_getElem? hr)
      have hrt := at_some (l := (run p p.code).t.held) hrb.1 (by omega)
      refine H.skip ?_
      refine HQ.next ?_
      refine H.seq ?_
      refine H.block ?_
      refine H.seq ?_
      refine H.region ?_
      refine HO.v (V.indexAddr (N := (encI .i64)) (ys := _) Try.underlying27 sz3 rfl rfl (by omega) (by omega) (by exact Has.ro (.tail _ (.head _)))) (ltn rfl) ?_
      refine HO.v (V.loadE (N := (encI .i64)) sc3 rfl (by exact .mk (Has.ro (.tail _ (.head _))) (hr) rfl)) (ltn rfl) ?_
      refine HO.v (V.assign rfl) (ltn rfl) ?_
      refine HO.nil ?_
      refine HQ.next ?_
      refine H.drawsP [tabCell bT _ _ _ _ _ _, rowE (encI .i64) 3 Ha hc _, cellsCh b7 _ _] [14] [[], [0], [], [], [3], [4], [5], [], [6, 7], [8], [2, 9], [10], [1, 11, 10], [0, 1, 2, 3, 4, 5, 6, 7, 8, 9, 10, 11, 12], [13, 12, 12, 0, 1, 2, 3, 4, 5, 6, 7, 8, 9, 10, 11, 12]] (.take 0 (.take 1 (.take 2 (.take 3 (.take 4 (.take 5 (.take 6 (.take 7 (.take 8 (.take 9 (.one 10 (.one 11 (.one 12 (.take 13 (.one 14 .done))))))))))))))) (.cons (by exact (.tail _ (.head _))) (.cons (by exact (.tail _ (.tail _ (.head _)))) (.cons (by exact (.tail _ (.tail _ (.tail _ (.tail _ (.tail _ (.head _))))))) (.nil)))) (by kernel_rfl) (by kernel_rfl) (by kernel_rfl) (by kernel_rfl) (by kernel_rfl) ?_
      refine HP.take (i := 0) rfl rfl (ltn rfl) (gives_of want_none (V.fieldAddr (fs := #[]) fa29_3 rfl)) (.cons (by exact (.tail _ (.head _))) (.cons (by exact (.tail _ (.tail _ (.head _)))) (.cons (by exact (.tail _ (.tail _ (.tail _ (.tail _ (.tail _ (.head _))))))) (Sub.nil)))) ?_
      refine HP.take (i := 1) rfl rfl (ltn rfl) (gives_of want_none (V.load sc27 rfl (by exact .mk (.there (.there .here)) rfl))) (.cons (by exact (.tail _ (.head _))) (.cons (by exact (.tail _ (.tail _ (.head _)))) (.cons (by exact (.tail _ (.tail _ (.tail _ (.tail _ (.tail _ (.head _))))))) (Sub.nil)))) ?_
      refine HP.take (i := 2) rfl rfl (ltn rfl) (gives_of want_none (V.move rfl)) (.cons (by exact (.tail _ (.head _))) (.cons (by exact (.tail _ (.tail _ (.head _)))) (.cons (by exact (.tail _ (.tail _ (.tail _ (.tail _ (.tail _ (.head _))))))) (Sub.nil)))) ?_
      refine HP.take (i := 3) rfl rfl (ltn rfl) (gives_of want_none (V.move rfl)) (.cons (by exact (.tail _ (.head _))) (.cons (by exact (.tail _ (.tail _ (.head _)))) (.cons (by exact (.tail _ (.tail _ (.tail _ (.tail _ (.tail _ (.head _))))))) (Sub.nil)))) ?_
      refine HP.take (i := 4) rfl rfl (ltn rfl) (gives_of want_none (V.nilCheck rfl)) (.cons (by exact (.tail _ (.head _))) (.cons (by exact (.tail _ (.tail _ (.head _)))) (.cons (by exact (.tail _ (.tail _ (.tail _ (.tail _ (.tail _ (.head _))))))) (Sub.nil)))) ?_
      refine HP.take (i := 5) rfl rfl (ltn rfl) (gives_of want_none (V.fieldAddr (fs := #[]) fa64_0 rfl)) (.cons (by exact (.tail _ (.head _))) (.cons (by exact (.tail _ (.tail _ (.head _)))) (.cons (by exact (.tail _ (.tail _ (.tail _ (.tail _ (.tail _ (.head _))))))) (Sub.nil)))) ?_
      refine HP.take (i := 6) rfl rfl (ltn rfl) (gives_of want_none (V.load sc27 rfl (by exact .mk .here rfl))) (.cons (by exact (.tail _ (.head _))) (.cons (by exact (.tail _ (.tail _ (.head _)))) (.cons (by exact (.tail _ (.tail _ (.tail _ (.tail _ (.tail _ (.head _))))))) (Sub.nil)))) ?_
      refine HP.take (i := 7) rfl rfl (ltn rfl) (gives_of want_none (V.move rfl)) (.cons (by exact (.tail _ (.head _))) (.cons (by exact (.tail _ (.tail _ (.head _)))) (.cons (by exact (.tail _ (.tail _ (.tail _ (.tail _ (.tail _ (.head _))))))) (Sub.nil)))) ?_
      refine HP.take (i := 8) rfl rfl (ltn rfl) (gives_of want_none (V.indexAddr (N := (encI .i64)) (ys := _) Try.underlying27 sz3 rfl rfl (by omega) (by omega) (by exact Has.own (.there .here)))) (.cons (by exact (.tail _ (.head _))) (.cons (by exact (.tail _ (.tail _ (.head _)))) (.cons (by exact (.tail _ (.tail _ (.tail _ (.tail _ (.tail _ (.head _))))))) (Sub.nil)))) ?_
      refine HP.take (i := 9) rfl rfl (ltn rfl) (gives_of want_none (V.loadE (N := (encI .i64)) sc3 rfl (by exact .mk (Has.own (.there .here)) (hrt) rfl))) (.cons (by exact (.tail _ (.head _))) (.cons (by exact (.tail _ (.tail _ (.head _)))) (.cons (by exact (.tail _ (.tail _ (.tail _ (.tail _ (.tail _ (.head _))))))) (Sub.nil)))) ?_
      refine HP.one (i := 10) rfl ?_
      intro fuel listed hno haf hrp hpk hfs
      refine HO.call ca19 (.cons rfl (.cons rfl (.nil))) (holder_w bT Ha hc q1 q2 _ (run p p.code).t.held _ (by omega)) (by exact Rems.nil) (by (refine Reads.own (.tail _ (.head _)) ?_); (refine Reads.row (.tail _ (.tail _ (.head _))) ?_); exact Reads.nil) (ltn rfl) ?_
      rintro v100 L100 ⟨rfl, rfl⟩
      dsimp only [List.nil_append, List.cons_append]
      refine HO.nil ?_
      refine HQ.nxt hno haf hrp hpk hfs (.cons (by exact (.tail _ (.head _))) (.cons (by exact (.tail _ (.tail _ (.head _)))) (.cons (by exact (.tail _ (.tail _ (.tail _ (.tail _ (.tail _ (.head _))))))) (Sub.nil)))) ?_
      refine HP.one (i := 11) rfl ?_
      intro fuel listed hno haf hrp hpk hfs
      refine HO.buildRow (encI .i64) ([holder (run p p.code).t.held (at_ (run p p.code).t.held r)]) Try.underlying27 ze3 (.cons rfl (.nil)) (.cons rfl (.nil)) (Nat.le_of_ble_eq_true rfl) (Nat.le_of_ble_eq_true rfl) (ltn rfl) ?_
      intro b101
      refine HO.nil ?_
      refine HQ.nxt hno haf hrp hpk hfs (.cons (by exact (.tail _ (.tail _ (.head _)))) (.cons (by exact (.tail _ (.tail _ (.tail _ (.head _))))) (.cons (by exact (.tail _ (.tail _ (.tail _ (.tail _ (.tail _ (.tail _ (.head _)))))))) (Sub.nil)))) ?_
      refine HP.one (i := 12) rfl ?_
      intro fuel listed hno haf hrp hpk hfs
      refine HO.append (N := (encI .i64)) (zs := [holder (run p p.code).t.held (at_ (run p p.code).t.held r)]) Try.underlying27 ze3 rfl rfl rfl (by exact (.there (.there (.there (.there (.there (.there (.there (.there .here))))))))) (by exact Has.own .here) (by first | omega | (simp; omega)) (by decide) (ltn rfl) ?_
      intro A102 c102
      refine HO.nil ?_
      refine HQ.nxt hno haf hrp hpk hfs (.cons (by exact (.tail _ (.tail _ (.tail _ (.head _))))) (.cons (by exact (.tail _ (.tail _ (.tail _ (.tail _ (.head _)))))) (.cons (by exact (.tail _ (.tail _ (.tail _ (.tail _ (.tail _ (.tail _ (.tail _ (.head _))))))))) (Sub.nil)))) ?_
      refine HP.take (i := 13) rfl rfl (ltn rfl) (gives_of want_none (V.fieldAddr (fs := #[]) fa29_3 rfl)) (.cons (by exact (.tail _ (.tail _ (.tail _ (.head _))))) (.cons (by exact (.tail _ (.tail _ (.tail _ (.tail _ (.head _)))))) (.cons (by exact (.tail _ (.tail _ (.tail _ (.tail _ (.tail _ (.tail _ (.tail _ (.head _))))))))) (Sub.nil)))) ?_
      refine HP.one (i := 14) rfl ?_
      intro fuel listed hno haf hrp hpk hfs
      refine HO.store sz27 rfl rfl rfl rfl rfl (by exact .mk (.there (.there (.there (.there (.there (.there (.there .here))))))) (by repeat constructor)) ?_
      refine HO.nil ?_
      refine HQ.nxtF (m := 14) hno haf hrp hpk hfs (by decide) (by kernel_rfl) rfl ?_
      refine HP.done ?_
      refine HQ.block_normal ?_
      refine HQ.next ?_
      refine H.region ?_
      rw [outsOf_snoc (run p p.code) hr]
      refine HO.v (V.add rfl rfl (by omega)) (ltn rfl) ?_
      refine HO.v (V.move rfl) (ltn rfl) ?_
      refine HO.nil ?_
      refine HQ.round ((q + 1, A102, c102)) ?_ ?_ ?_
      · (dsimp only; omega)
      · (dsimp only; omega)
      · skip
        exact HQ.fits (.cons rfl (.cons rfl (.cons rfl (.cons rfl (.cons rfl (.cons rfl (.nil))))))) (by exact Rems.cons (by exact (.there (.there (.there .here)))) (Rems.cons (by exact (.there (.there (.there .here)))) (Rems.cons (by exact (.there (.there (.there .here)))) (Rems.cons (by exact (.there (.there (.there .here)))) (Rems.cons (by exact (.there (.there (.there .here)))) (Rems.cons (by exact .here) (Rems.cons (by exact (.there (.there .here))) (Rems.cons (by exact .here) (Rems.nil)))))))))
    · skip
      try simp only [decide_eq_true_eq, decide_eq_false_iff_not, Bool.not_eq_true', Bool.not_eq_false'] at h87
      obtain rfl : q = p.outs.length := by omega
      rw [List.take_length]
      refine H.exit ?_
      refine HQ.then_exit ?_
      refine HQ.then_exit ?_
      refine HQ.exit_hit ?_
      refine HQ.keep (.cons (t := 2) rfl (.cons (t := 7) rfl (.nil))) ?_
      refine HQ.next ?_
      refine H.seq ?_
      refine H.region ?_
      refine HO.v (V.loadA ag29 rfl (by exact .mk (.there (.there (.there (.there (.there .here))))) (by repeat constructor))) (ltn rfl) ?_
      refine HO.store sz29 rfl rfl rfl rfl rfl (by exact .mk .here (by repeat constructor)) ?_
      refine HO.v (V.assign rfl) (ltn rfl) ?_
      refine HO.nil ?_
      refine HQ.next ?_
      refine H.ret ?_
      refine HQ.end_ rfl rfl rfl rfl (.inl rfl) _ (fun a w s => resR2 Try.results10 s (.agg ag29 rfl (by exact .mk .here (by repeat constructor))) (.tmp rfl)) ?_
      refine ⟨[rowE encIn 50 Ck ck (run p p.code).code, rowE (encI .i64) 3 Dq dq (outsOf (run p p.code) p.outs)], _, (by exact Rems.cons (by exact (.there (.there (.there (.there (.there (.there .here))))))) (Rems.cons (by exact (.there (.there (.there (.there (.there (.there .here))))))) (Rems.nil))), ?_⟩
      exact ⟨_, _, _, _, rfl, rfl⟩
theorem check_bad  :
    Tri Try.prog 15 #[vPg ⟨1, 1, [], []⟩ none 0 none 0] [] [] (fun v L' => v = .tuple #[.int .i64 (-1), .int .i64 80] ∧ L' = []) := by
  refine Tri.of' 72 [vPg ⟨1, 1, [], []⟩ none 0 none 0] [(0, vPg ⟨1, 1, [], []⟩ none 0 none 0)] Try.func15 Try.ntmps15 rfl rfl rfl ?_
  intro w0
  refine H.seq ?_
  refine H.region ?_
  refine HO.box rfl rfl (ltn rfl) ?_
  intro b1
  refine HO.v (V.assign rfl) (ltn rfl) ?_
  refine HO.v (V.assign rfl) (ltn rfl) ?_
  refine HO.nil ?_
  refine HQ.next ?_
  refine H.seq ?_
  refine H.seq ?_
  refine H.region ?_
  refine HO.v (V.fieldAddr (fs := #[]) fa29_0 rfl) (ltn rfl) ?_
  refine HO.v (V.load sc3 rfl (by exact .mk .here rfl)) (ltn rfl) ?_
  refine HO.v (V.lss rfl rfl) (ltn rfl) ?_
  refine HO.v (V.move rfl) (ltn rfl) ?_
  refine HO.setF (t := 11) rfl (by rfl) ?_
  refine HO.gdo rfl rfl rfl rfl ?_
  refine HO.v (V.fieldAddr (fs := #[]) fa29_0 rfl) (ltn rfl) ?_
  refine HO.gdo rfl rfl rfl rfl ?_
  refine HO.v (V.load sc3 rfl (by exact .mk .here rfl)) (ltn rfl) ?_
  refine HO.gdo rfl rfl rfl rfl ?_
  refine HO.v (V.fieldAddr (fs := #[]) fa29_1 rfl) (ltn rfl) ?_
  refine HO.gdo rfl rfl rfl rfl ?_
  refine HO.v (V.load sc3 rfl (by exact .mk .here rfl)) (ltn rfl) ?_
  refine HO.gdo rfl rfl rfl rfl ?_
  refine HO.v (V.gtr rfl rfl) (ltn rfl) ?_
  refine HO.v (V.pickF rfl rfl) (ltn rfl) ?_
  refine HO.v (V.move rfl) (ltn rfl) ?_
  refine HO.setF (t := 18) rfl (by rfl) ?_
  refine HO.gdo rfl rfl rfl rfl ?_
  refine HO.v (V.fieldAddr (fs := #[]) fa29_1 rfl) (ltn rfl) ?_
  refine HO.gdo rfl rfl rfl rfl ?_
  refine HO.v (V.load sc3 rfl (by exact .mk .here rfl)) (ltn rfl) ?_
  refine HO.gdo rfl rfl rfl rfl ?_
  refine HO.v (V.gtr rfl rfl) (ltn rfl) ?_
  refine HO.v (V.pickF rfl rfl) (ltn rfl) ?_
  refine HO.v (V.move rfl) (ltn rfl) ?_
  refine HO.setF (t := 23) rfl (by rfl) ?_
  refine HO.gdo rfl rfl rfl rfl ?_
  refine HO.v (V.fieldAddr (fs := #[]) fa29_2 rfl) (ltn rfl) ?_
  refine HO.gdo rfl rfl rfl rfl ?_
  refine HO.v (V.load sc26 rfl (by exact .mk .here rfl)) (ltn rfl) ?_
  refine HO.gdo rfl rfl rfl rfl ?_
  refine HO.v (V.len Try.underlying26 rfl) (ltn rfl) ?_
  refine HO.gdo rfl rfl rfl rfl ?_
  refine HO.v (V.gtr rfl rfl) (ltn rfl) ?_
  refine HO.v (V.pickF rfl rfl) (ltn rfl) ?_
  refine HO.v (V.move rfl) (ltn rfl) ?_
  refine HO.setF (t := 29) rfl (by rfl) ?_
  refine HO.gdo rfl rfl rfl rfl ?_
  refine HO.v (V.fieldAddr (fs := #[]) fa29_3 rfl) (ltn rfl) ?_
  refine HO.gdo rfl rfl rfl rfl ?_
  refine HO.v (V.load sc27 rfl (by exact .mk .here rfl)) (ltn rfl) ?_
  refine HO.gdo rfl rfl rfl rfl ?_
  refine HO.v (V.len Try.underlying27 rfl) (ltn rfl) ?_
  refine HO.gdo rfl rfl rfl rfl ?_
  refine HO.v (V.lss rfl rfl) (ltn rfl) ?_
  refine HO.v (V.pickF rfl rfl) (ltn rfl) ?_
  refine HO.v (V.move rfl) (ltn rfl) ?_
  refine HO.setT (t := 35) rfl (by rfl) ?_
  refine HO.gskip rfl rfl rfl rfl (ltn rfl) ?_
  refine HO.gskip rfl rfl rfl rfl (ltn rfl) ?_
  refine HO.gskip rfl rfl rfl rfl (ltn rfl) ?_
  refine HO.gskip rfl rfl rfl rfl (ltn rfl) ?_
  refine HO.v (V.pickT rfl rfl) (ltn rfl) ?_
  refine HO.nil ?_
  refine HQ.keep (.cons (t := 1) rfl (.cons (t := 2) rfl (.cons (t := 3) rfl (.cons (t := 40) rfl (.nil))))) ?_
  refine HQ.next ?_
  refine H.condT rfl rfl ?_
  refine H.seq ?_
  refine H.region ?_
  refine HO.v (V.assign rfl) (ltn rfl) ?_
  refine HO.v (V.assign rfl) (ltn rfl) ?_
  refine HO.nil ?_
  refine HQ.next ?_
  refine H.ret ?_
  refine HQ.then_ret ?_
  refine HQ.end_ rfl rfl rfl rfl (.inl rfl) _ (fun a w s => res2 Try.results15 s rfl rfl) ?_
  refine ⟨[], _, (by exact Rems.nil), ?_⟩
  exact ⟨rfl, rfl⟩
theorem sharePass_bad  :
    Tri Try.prog 10 #[vPg ⟨1, 1, [], []⟩ none 0 none 0] [] [] (fun v L' => v = .tuple #[vPg ⟨0, 0, [], []⟩ none 0 none 0, .int .i64 80] ∧ L' = []) := by
  refine Tri.of' 106 [vPg ⟨1, 1, [], []⟩ none 0 none 0] [(0, vPg ⟨1, 1, [], []⟩ none 0 none 0)] Try.func10 Try.ntmps10 rfl rfl rfl ?_
  intro w0
  refine H.seq ?_
  refine H.region ?_
  refine HO.box rfl rfl (ltn rfl) ?_
  intro b1
  refine HO.alloc ze29 rfl (ltn rfl) ?_
  intro b2
  refine HO.v (V.assign rfl) (ltn rfl) ?_
  refine HO.nil ?_
  refine HQ.next ?_
  refine H.seq ?_
  refine H.seq ?_
  refine H.region ?_
  refine HO.v (V.loadA ag29 rfl (by exact .mk (.there .here) (by repeat constructor))) (ltn rfl) ?_
  refine HO.call ca15 (.cons rfl (.nil)) (check_bad) (by exact Rems.nil) (by exact Reads.nil) (ltn rfl) ?_
  rintro v17 L17 ⟨rfl, rfl⟩
  dsimp only [List.nil_append, List.cons_append]
  refine HO.v (V.move rfl) (ltn rfl) ?_
  refine HO.v (V.extract rfl rfl) (ltn rfl) ?_
  refine HO.v (V.extract rfl rfl) (ltn rfl) ?_
  refine HO.v (V.assign rfl) (ltn rfl) ?_
  refine HO.v (V.assign rfl) (ltn rfl) ?_
  refine HO.nil ?_
  refine HQ.keep (.cons (t := 1) rfl (.cons (t := 2) rfl (.cons (t := 3) rfl (.cons (t := 5) rfl (.nil))))) ?_
  refine HQ.next ?_
  refine H.seq ?_
  refine H.region ?_
  refine HO.v (V.move rfl) (ltn rfl) ?_
  refine HO.v (V.neqI rfl rfl) (ltn rfl) ?_
  refine HO.nil ?_
  refine HQ.next ?_
  refine H.condT rfl (by rfl) ?_
  refine H.seq ?_
  refine H.region ?_
  refine HO.v (V.build ze29 pl29 rfl (.nil) (.nil)) (ltn rfl) ?_
  refine HO.v (V.move rfl) (ltn rfl) ?_
  refine HO.store sz29 rfl rfl rfl rfl rfl (by exact .mk .here (by repeat constructor)) ?_
  refine HO.v (V.assign rfl) (ltn rfl) ?_
  refine HO.nil ?_
  refine HQ.keep (.cons (t := 1) rfl (.cons (t := 2) rfl (.cons (t := 3) rfl (.nil)))) ?_
  refine HQ.next ?_
  refine H.ret ?_
  refine HQ.then_ret ?_
  refine HQ.end_ rfl rfl rfl rfl (.inl rfl) _ (fun a w s => resR2 Try.results10 s (.agg ag29 rfl (by exact .mk .here (by repeat constructor))) (.tmp rfl)) ?_
  refine ⟨[], _, (by exact Rems.nil), ?_⟩
  exact ⟨rfl, rfl⟩

end Go.Proofs.Ytcmlghemanjaaaa
