/- Walks of package share: what comes up twice, the pass. Conditions: as the theorems say. -/
import Derived.Test.YtcmlghemanjaaaaPgJ
import Derived.Test.YtcmlghemanjaaaaShareWalks3
set_option linter.unusedVariables false
set_option linter.unusedSimpArgs false
set_option maxRecDepth 10000
namespace Go.Proofs.Ytcmlghemanjaaaa
open Go Go.RowKit Sl Pg

set_option maxRecDepth 100000

set_option maxRecDepth 10000

set_option maxHeartbeats 1000000 in
theorem twice1_w (bp : Nat) (p : Prg) (A : Option Addr) (n : Nat) (Bo : Option Addr) (m : Nat) (hv : Right p) :
    Iter Try.prog 20 [] [.pointer (some ⟨bp, 0, none⟩)] [cellsCh bp 29 [.int .i64 p.ins, .int .i64 p.regs, .slice A p.code.length n, .slice Bo p.outs.length m], roE encIn A p.code, roE (encI .i64) Bo p.outs] (fun x : Int × Int => [.int .i64 x.1, .int .i64 x.2]) (pairs (run p p.code).firsts) := by
  intro lp σ C D J Jx RY s0 h0 hY
  show Tri Try.prog 20 #[.func (.yield lp) #[] #[], .pointer (some ⟨bp, 0, none⟩)] (cellsCh bp 29 [.int .i64 p.ins, .int .i64 p.regs, .slice A p.code.length n, .slice Bo p.outs.length m] :: roE encIn A p.code :: roE (encI .i64) Bo p.outs :: RY) [C s0] _
  have hp1 := hv.ins1
  have hp2 := hv.ins2
  have hp3 := hv.regs
  have hp4 := hv.code
  refine Tri.of' 57 [.func (.yield lp) #[] #[], .pointer (some ⟨bp, 0, none⟩)] [(0, .func (.yield lp) #[] #[]), (1, .pointer (some ⟨bp, 0, none⟩))] Try.func20 Try.ntmps20 rfl rfl rfl ?_
  intro w0
  refine H.seq ?_
  refine H.seq ?_
  refine H.region ?_
  refine HO.v (V.loadAR ag29 rfl (by exact (.head _)) (by repeat constructor)) (ltn rfl) ?_
  refine HO.call ca15 (.cons rfl (.nil)) (check_w p A n Bo m hv) (by exact Rems.nil) (by (refine Reads.ro (.tail _ (.head _)) ?_); (refine Reads.ro (.tail _ (.tail _ (.head _))) ?_); exact Reads.nil) (ltn rfl) ?_
  rintro v12 L12 ⟨rfl, rfl⟩
  dsimp only [List.nil_append, List.cons_append]
  refine HO.v (V.move rfl) (ltn rfl) ?_
  refine HO.v (V.extract rfl rfl) (ltn rfl) ?_
  refine HO.v (V.extract rfl rfl) (ltn rfl) ?_
  refine HO.v (V.assign rfl) (ltn rfl) ?_
  refine HO.v (V.assign rfl) (ltn rfl) ?_
  refine HO.nil ?_
  refine HQ.keep (.cons (t := 0) rfl (.cons (t := 1) rfl (.cons (t := 4) rfl (.nil)))) ?_
  refine HQ.next ?_
  refine H.seq ?_
  refine H.region ?_
  refine HO.v (V.move rfl) (ltn rfl) ?_
  refine HO.v (V.neqI rfl rfl) (ltn rfl) ?_
  refine HO.nil ?_
  refine HQ.next ?_
  refine H.condF rfl (by rfl) ?_
  refine H.skip ?_
  refine HQ.next ?_
  refine H.seq ?_
  refine H.region ?_
  refine HO.v (V.loadAR ag29 rfl (by exact (.head _)) (by repeat constructor)) (ltn rfl) ?_
  refine HO.call ca16 (.cons rfl (.nil)) (newTable_w p A n Bo m hv.ins1 hv.ins2 hv.regs) (by exact Rems.nil) (by exact Reads.nil) (ltn rfl) ?_
  rintro v18 L18 ⟨bT, Ha, hc, q1, q2, rfl, rfl⟩
  dsimp only [List.nil_append, List.cons_append]
  refine HO.v (V.assign rfl) (ltn rfl) ?_
  refine HO.nil ?_
  refine HQ.keep (.cons (t := 0) rfl (.cons (t := 1) rfl (.cons (t := 5) rfl (.nil)))) ?_
  refine HQ.next ?_
  refine H.seq ?_
  refine H.region ?_
  refine HO.v (V.fieldAddr (fs := #[]) fa29_2 rfl) (ltn rfl) ?_
  refine HO.v (V.loadR sc26 rfl (by exact (.head _)) rfl) (ltn rfl) ?_
  refine HO.v (V.len Try.underlying26 rfl) (ltn rfl) ?_
  refine HO.v (V.move rfl) (ltn rfl) ?_
  refine HO.nil ?_
  refine HQ.keep (.cons (t := 0) rfl (.cons (t := 5) rfl (.cons (t := 20) rfl (.cons (t := 21) rfl (.cons (t := 22) rfl (.nil)))))) ?_
  refine HQ.next ?_
  refine H.block ?_
  refine H.loop (σ := Nat × σ) (fun s => p.code.length - s.1) (fun s => [(0, .func (.yield lp) #[] #[]), (5, .pointer (some ⟨bT, 0, none⟩)), (20, .slice A p.code.length n), (21, .int .i64 ((p.code.length : Nat) : Int)), (22, .int .i64 ((s.1 : Nat) : Int))]) (fun s => [tabCell bT Ha (run p (p.code.take s.1)).t.held.length hc q1 q2 (run p (p.code.take s.1)).t.next, rowE (encI .i64) 3 Ha hc (run p (p.code.take s.1)).t.held, tabMap q1 (run p (p.code.take s.1)).t.known, tabMap q2 (run p (p.code.take s.1)).t.first, C s.2]) (fun s => s.1 ≤ p.code.length ∧ J (pairs (run p (p.code.take s.1)).firsts) s.2) ((0, s0)) ?_ ?_ ?_
  · exact ⟨Nat.zero_le _, h0⟩
  · skip
    exact HQ.fits (.cons rfl (.cons rfl (.cons rfl (.cons rfl (.cons rfl (.nil)))))) (by exact Rems.cons (by exact .here) (Rems.cons (by exact .here) (Rems.cons (by exact .here) (Rems.cons (by exact .here) (Rems.cons (by exact .here) (Rems.nil))))))
  rintro ⟨k, z⟩ ⟨hk, hJ⟩
  dsimp only at hk hJ ⊢
  refine H.seq ?_
  refine H.region ?_
  refine HO.v (V.lss rfl rfl) (ltn rfl) ?_
  refine HO.nil ?_
  refine HQ.next ?_
  refine H.seq ?_
  refine H.condB rfl (fun h23 => ?_) (fun h23 => ?_)
  · skip
    try simp only [decide_eq_true_eq, decide_eq_false_iff_not, Bool.not_eq_true', Bool.not_eq_false'] at h23
    obtain ⟨i, hi⟩ : ∃ i, p.code[k]? = some i := ⟨_, List.getElem?_eq_getElem (by omega)⟩
    have hmi := hv.may i (List.mem_of_getElem? hi)
    have hto0 := hmi.to0
    have hto1 := hmi.to1
    obtain ⟨s, hs⟩ : ∃ s, run p (p.code.take k) = s := ⟨_, rfl⟩
    have hf := prefix_fine hv hs
    have hln := hf.len
    have hsv := run_vals p (p.code.take k)
    rw [hs] at hsv
    have htl : (p.code.take k).length = k := by (simp; omega)
    rw [hs]
    rw [hs] at hJ
    have hsk : s.firsts.length = k := by omega
    refine H.skip ?_
    refine HQ.next ?_
    refine H.seq ?_
    refine H.block ?_
    refine H.seq ?_
    refine H.region ?_
    refine HO.v (V.move rfl) (ltn rfl) ?_
    refine HO.v (V.indexAddr (N := encIn) (ys := _) Try.underlying26 sz50 rfl rfl (by omega) (by omega) (by exact Has.ro (.tail _ (.head _)))) (ltn rfl) ?_
    refine HO.v (V.loadEA (N := encIn) ag50 rfl (by exact .mk (Has.ro (.tail _ (.head _))) (hi) rfl)) (ltn rfl) ?_
    refine HO.alloc ze50 rfl (ltn rfl) ?_
    intro b7
    refine HO.v (V.assign rfl) (ltn rfl) ?_
    refine HO.store sz50 rfl rfl rfl rfl rfl (by exact .mk .here (by repeat constructor)) ?_
    refine HO.nil ?_
    refine HQ.next ?_
    refine H.seq ?_
    refine H.region ?_
    refine HO.v (V.move rfl) (ltn rfl) ?_
    refine HO.v (V.move rfl) (ltn rfl) ?_
    refine HO.v (V.loadA ag50 rfl (by exact .mk .here (by repeat constructor))) (ltn rfl) ?_
    refine HO.call ca17 (.cons rfl (.cons rfl (.cons rfl (.nil)))) (reckon_w bT Ha hc q1 q2 s.t k i p.regs (p.ins + 1 + 16384) hf (by omega) hv.regs hmi) (by exact Rems.cons (by exact (.there .here)) (Rems.cons (by exact (.there .here)) (Rems.cons (by exact (.there .here)) (Rems.cons (by exact (.there .here)) (Rems.nil))))) (by exact Reads.nil) (ltn rfl) ?_
    rintro v31 L31 ⟨rfl, rfl⟩
    dsimp only [List.nil_append, List.cons_append]
    refine HO.v (V.move rfl) (ltn rfl) ?_
    refine HO.v (V.extract rfl rfl) (ltn rfl) ?_
    refine HO.v (V.extract rfl rfl) (ltn rfl) ?_
    refine HO.v (V.assign rfl) (ltn rfl) ?_
    refine HO.v (V.assign rfl) (ltn rfl) ?_
    refine HO.nil ?_
    refine HQ.next ?_
    refine H.seq ?_
    refine H.drawsP [tabCell bT _ _ _ _ _ _, rowE (encI .i64) 3 Ha hc _, cellsCh b7 _ _] [8] [[], [0], [1], [2], [], [4], [], [3, 5, 0, 1, 2, 3, 4, 5, 6], [7, 6, 0, 1, 2, 3, 4, 5, 6]] (.take 0 (.take 1 (.take 2 (.take 3 (.take 4 (.take 5 (.take 6 (.take 7 (.one 8 .done))))))))) (.cons (by exact (.head _)) (.cons (by exact (.tail _ (.head _))) (.cons (by exact (.tail _ (.tail _ (.tail _ (.tail _ (.head _)))))) (.nil)))) (by kernel_rfl) (by kernel_rfl) (by kernel_rfl) (by kernel_rfl) (by kernel_rfl) ?_
    refine HP.take (i := 0) rfl rfl (ltn rfl) (gives_of want_none (V.move rfl)) (.cons (by exact (.head _)) (.cons (by exact (.tail _ (.head _))) (.cons (by exact (.tail _ (.tail _ (.tail _ (.tail _ (.head _)))))) (Sub.nil)))) ?_
    refine HP.take (i := 1) rfl rfl (ltn rfl) (gives_of want_none (V.nilCheck rfl)) (.cons (by exact (.head _)) (.cons (by exact (.tail _ (.head _))) (.cons (by exact (.tail _ (.tail _ (.tail _ (.tail _ (.head _)))))) (Sub.nil)))) ?_
    refine HP.take (i := 2) rfl rfl (ltn rfl) (gives_of want_none (V.fieldAddr (fs := #[]) fa64_0 rfl)) (.cons (by exact (.head _)) (.cons (by exact (.tail _ (.head _))) (.cons (by exact (.tail _ (.tail _ (.tail _ (.tail _ (.head _)))))) (Sub.nil)))) ?_
    refine HP.take (i := 3) rfl rfl (ltn rfl) (gives_of want_none (V.load sc27 rfl (by exact .mk .here rfl))) (.cons (by exact (.head _)) (.cons (by exact (.tail _ (.head _))) (.cons (by exact (.tail _ (.tail _ (.tail _ (.tail _ (.head _)))))) (Sub.nil)))) ?_
    refine HP.take (i := 4) rfl rfl (ltn rfl) (gives_of want_none (V.fieldAddr (fs := #[]) fa50_1 rfl)) (.cons (by exact (.head _)) (.cons (by exact (.tail _ (.head _))) (.cons (by exact (.tail _ (.tail _ (.tail _ (.tail _ (.head _)))))) (Sub.nil)))) ?_
    refine HP.take (i := 5) rfl rfl (ltn rfl) (gives_of want_none (V.load sc3 rfl (by exact .mk (.there (.there .here)) rfl))) (.cons (by exact (.head _)) (.cons (by exact (.tail _ (.head _))) (.cons (by exact (.tail _ (.tail _ (.tail _ (.tail _ (.head _)))))) (Sub.nil)))) ?_
    refine HP.take (i := 6) rfl rfl (ltn rfl) (gives_of want_none (V.move rfl)) (.cons (by exact (.head _)) (.cons (by exact (.tail _ (.head _))) (.cons (by exact (.tail _ (.tail _ (.tail _ (.tail _ (.head _)))))) (Sub.nil)))) ?_
    refine HP.take (i := 7) rfl rfl (ltn rfl) (gives_of want_none (V.indexAddr (N := (encI .i64)) (ys := _) Try.underlying27 sz3 rfl rfl (by omega) (by omega) (by exact Has.own (.there .here)))) (.cons (by exact (.head _)) (.cons (by exact (.tail _ (.head _))) (.cons (by exact (.tail _ (.tail _ (.tail _ (.tail _ (.head _)))))) (Sub.nil)))) ?_
    refine HP.one (i := 8) rfl ?_
    intro fuel listed hno haf hrp hpk hfs
    refine HO.storeS (N := (encI .i64)) (z := _) sz3 rfl rfl rfl (by exact .mk (.there .here) (by first | assumption | omega)) ?_
    refine HO.nil ?_
    refine HQ.nxtF (m := 8) hno haf hrp hpk hfs (by decide) (by kernel_rfl) rfl ?_
    refine HP.done ?_
    refine HQ.next ?_
    refine H.seq ?_
    refine H.region ?_
    obtain ⟨e1, e2, e3, e4, e5, e6, e7⟩ := step_all hs hi hto0 (by omega)
    rw [e1, e2, e3, e4, e5]
    refine HO.v (V.move rfl) (ltn rfl) ?_
    refine HO.v (V.geq rfl rfl) (ltn rfl) ?_
    refine HO.v (V.move rfl) (ltn rfl) ?_
    refine HO.part (t := 44) rfl (fun g44 => ?_) (fun g44 => ?_)
    · skip
      try simp only [decide_eq_true_eq, decide_eq_false_iff_not, Bool.not_eq_true', Bool.not_eq_false'] at g44
      refine HO.gdo rfl rfl rfl rfl ?_
      refine HO.v (V.move rfl) (ltn rfl) ?_
      refine HO.gdo rfl rfl rfl rfl ?_
      refine HO.v (V.move rfl) (ltn rfl) ?_
      refine HO.gdo rfl rfl rfl rfl ?_
      refine HO.v (V.lss rfl rfl) (ltn rfl) ?_
      refine HO.v (V.pickT rfl rfl) (ltn rfl) ?_
      refine HO.v (V.move rfl) (ltn rfl) ?_
      refine HO.part (t := 49) rfl (fun g49 => ?_) (fun g49 => ?_)
      · skip
        try simp only [decide_eq_true_eq, decide_eq_false_iff_not, Bool.not_eq_true', Bool.not_eq_false'] at g49
        refine HO.gdo rfl rfl rfl rfl ?_
        refine HO.v (V.move rfl) (ltn rfl) ?_
        refine HO.gdo rfl rfl rfl rfl ?_
        refine HO.v (V.move rfl) (ltn rfl) ?_
        refine HO.gdo rfl rfl rfl rfl ?_
        refine HO.v (V.move rfl) (ltn rfl) ?_
        have hpre : pairs s.firsts ++ [((k : Int), (reckon s.t k i).2.1)] <+: pairs (run p p.code).firsts := (by have h1 := pairs_take p (k + 1); rw [← e7, pairs_yes (by assumption) (by omega), hsk] at h1; exact h1)
        refine HO.gdo rfl rfl rfl rfl ?_
        refine HO.yield rfl (.cons rfl (.cons rfl (.nil))) (hY (pairs s.firsts) ((k : Int), (reckon s.t k i).2.1) z hpre hJ) (by exact Rems.cons (by exact (.there (.there (.there (.there (.there .here)))))) (Rems.nil)) (by exact Reads.sub (fun c hc => .tail _ (.tail _ (.tail _ hc)))) (fun _ e => by cases e; exact (ltn rfl)) ?_
        rintro v53 L53 (⟨s53, rfl, rfl, hJ53⟩ | ⟨s53, rfl, rfl, hJ53⟩)
        · skip
          dsimp only [List.nil_append, List.cons_append]
          refine HO.gdo rfl rfl rfl rfl ?_
          refine HO.v (V.not rfl) (ltn rfl) ?_
          refine HO.v (V.pickT rfl rfl) (ltn rfl) ?_
          refine HO.nil ?_
          refine HQ.next ?_
          refine H.condF rfl rfl ?_
          refine H.skip ?_
          refine HQ.block_normal ?_
          refine HQ.next ?_
          refine H.region ?_
          refine HO.v (V.add rfl rfl (by omega)) (ltn rfl) ?_
          refine HO.v (V.move rfl) (ltn rfl) ?_
          refine HO.nil ?_
          refine HQ.round ((k + 1, s53)) ?_ ?_ ?_
          · exact ⟨by dsimp only; omega, by dsimp only; rw [← e7, pairs_yes (by assumption) (by omega), hsk]; exact hJ53⟩
          · (dsimp only; omega)
          · skip
            exact HQ.fits (.cons rfl (.cons rfl (.cons rfl (.cons rfl (.cons rfl (.nil)))))) (by exact Rems.cons (by exact (.there (.there .here))) (Rems.cons (by exact (.there .here)) (Rems.cons (by exact (.there .here)) (Rems.cons (by exact (.there .here)) (Rems.cons (by exact .here) (Rems.nil))))))
        · skip
          dsimp only [List.nil_append, List.cons_append]
          refine HO.gdo rfl rfl rfl rfl ?_
          refine HO.v (V.not rfl) (ltn rfl) ?_
          refine HO.v (V.pickT rfl rfl) (ltn rfl) ?_
          refine HO.nil ?_
          refine HQ.next ?_
          refine H.condT rfl rfl ?_
          refine H.ret ?_
          refine HQ.block_ret ?_
          refine HQ.then_ret ?_
          refine HQ.then_ret ?_
          refine HQ.block_ret ?_
          refine HQ.end_ rfl rfl rfl rfl (.inl rfl) _ (fun a w s => res0 Try.results20 s) ?_
          refine ⟨[D s53], _, (by exact Rems.cons (by exact .here) (Rems.nil)), ?_⟩
          exact .inr ⟨s53, _, hpre, rfl, hJ53⟩
      · skip
        try simp only [decide_eq_true_eq, decide_eq_false_iff_not, Bool.not_eq_true', Bool.not_eq_false'] at g49
        refine HO.gskip rfl rfl rfl rfl (ltn rfl) ?_
        refine HO.gskip rfl rfl rfl rfl (ltn rfl) ?_
        refine HO.gskip rfl rfl rfl rfl (ltn rfl) ?_
        refine HO.gskip rfl rfl rfl rfl (ltn rfl) ?_
        refine HO.gskip rfl rfl rfl rfl (ltn rfl) ?_
        refine HO.v (V.pickF rfl rfl) (ltn rfl) ?_
        refine HO.nil ?_
        refine HQ.next ?_
        refine H.condF rfl rfl ?_
        refine H.skip ?_
        refine HQ.block_normal ?_
        refine HQ.next ?_
        refine H.region ?_
        refine HO.v (V.add rfl rfl (by omega)) (ltn rfl) ?_
        refine HO.v (V.move rfl) (ltn rfl) ?_
        refine HO.nil ?_
        refine HQ.round ((k + 1, z)) ?_ ?_ ?_
        · exact ⟨by dsimp only; omega, by dsimp only; rw [← e7, pairs_no (by omega)]; exact hJ⟩
        · (dsimp only; omega)
        · skip
          exact HQ.fits (.cons rfl (.cons rfl (.cons rfl (.cons rfl (.cons rfl (.nil)))))) (by exact Rems.cons (by exact (.there .here)) (Rems.cons (by exact .here) (Rems.cons (by exact .here) (Rems.cons (by exact .here) (Rems.cons (by exact (.there .here)) (Rems.nil))))))
    · skip
      try simp only [decide_eq_true_eq, decide_eq_false_iff_not, Bool.not_eq_true', Bool.not_eq_false'] at g44
      refine HO.gskip rfl rfl rfl rfl (ltn rfl) ?_
      refine HO.gskip rfl rfl rfl rfl (ltn rfl) ?_
      refine HO.gskip rfl rfl rfl rfl (ltn rfl) ?_
      refine HO.v (V.pickF rfl rfl) (ltn rfl) ?_
      refine HO.v (V.move rfl) (ltn rfl) ?_
      refine HO.gskip rfl rfl rfl rfl (ltn rfl) ?_
      refine HO.gskip rfl rfl rfl rfl (ltn rfl) ?_
      refine HO.gskip rfl rfl rfl rfl (ltn rfl) ?_
      refine HO.gskip rfl rfl rfl rfl (ltn rfl) ?_
      refine HO.gskip rfl rfl rfl rfl (ltn rfl) ?_
      refine HO.v (V.pickF rfl rfl) (ltn rfl) ?_
      refine HO.nil ?_
      refine HQ.next ?_
      refine H.condF rfl rfl ?_
      refine H.skip ?_
      refine HQ.block_normal ?_
      refine HQ.next ?_
      refine H.region ?_
      refine HO.v (V.add rfl rfl (by omega)) (ltn rfl) ?_
      refine HO.v (V.move rfl) (ltn rfl) ?_
      refine HO.nil ?_
      refine HQ.round ((k + 1, z)) ?_ ?_ ?_
      · exact ⟨by dsimp only; omega, by dsimp only; rw [← e7, pairs_no (by omega)]; exact hJ⟩
      · (dsimp only; omega)
      · skip
        exact HQ.fits (.cons rfl (.cons rfl (.cons rfl (.cons rfl (.cons rfl (.nil)))))) (by exact Rems.cons (by exact (.there .here)) (Rems.cons (by exact .here) (Rems.cons (by exact .here) (Rems.cons (by exact .here) (Rems.cons (by exact (.there .here)) (Rems.nil))))))
  · skip
    try simp only [decide_eq_true_eq, decide_eq_false_iff_not, Bool.not_eq_true', Bool.not_eq_false'] at h23
    have hkl : p.code.take k = p.code := List.take_of_length_le (by omega)
    rw [hkl]
    rw [hkl] at hJ
    refine H.exit ?_
    refine HQ.then_exit ?_
    refine HQ.then_exit ?_
    refine HQ.exit_hit ?_
    refine HQ.end_ rfl rfl rfl rfl (.inr rfl) _ (fun a w s => res0 Try.results20 s) ?_
    refine ⟨[C z], _, (by exact Rems.cons (by exact (.there (.there (.there (.there .here))))) (Rems.nil)), ?_⟩
    exact .inl ⟨z, rfl, hJ⟩
theorem twice_w (p : Prg) (A : Option Addr) (n : Nat) (Bo : Option Addr) (m : Nat) :
    Tri Try.prog 12 #[vPg p A n Bo m] [] [] (fun v L' => ∃ bp, v = .func (.func 20) #[] #[.pointer (some ⟨bp, 0, none⟩)] ∧ L' = [cellsCh bp 29 [.int .i64 p.ins, .int .i64 p.regs, .slice A p.code.length n, .slice Bo p.outs.length m]]) := by
  refine Tri.of' 4 [vPg p A n Bo m] [(0, vPg p A n Bo m)] Try.func12 Try.ntmps12 rfl rfl rfl ?_
  intro w0
  refine H.seq ?_
  refine H.region ?_
  refine HO.box rfl rfl (ltn rfl) ?_
  intro b1
  refine HO.v (V.assign rfl) (ltn rfl) ?_
  refine HO.nil ?_
  refine HQ.next ?_
  refine H.seq ?_
  refine H.region ?_
  refine HO.v (V.makeFunc (.nil) (.cons rfl (.nil))) (ltn rfl) ?_
  refine HO.v (V.assign rfl) (ltn rfl) ?_
  refine HO.nil ?_
  refine HQ.next ?_
  refine H.ret ?_
  refine HQ.end_ rfl rfl rfl rfl (.inl rfl) _ (fun a w s => res1 Try.results12 s rfl) ?_
  refine ⟨[cellsCh b1 29 [.int .i64 p.ins, .int .i64 p.regs, .slice A p.code.length n, .slice Bo p.outs.length m]], _, (by exact Rems.cons (by exact .here) (Rems.nil)), ?_⟩
  exact ⟨_, rfl, rfl⟩

end Go.Proofs.Ytcmlghemanjaaaa
