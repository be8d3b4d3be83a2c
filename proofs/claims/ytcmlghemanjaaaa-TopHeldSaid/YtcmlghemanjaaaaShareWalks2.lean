/- Walks of package share: the table begun, what an instruction reckons, the values, the pass, what comes up twice. Conditions: as the theorems say. -/
import Derived.Test.YtcmlghemanjaaaaPgI
import Derived.Test.YtcmlghemanjaaaaShareWalks1
set_option linter.unusedVariables false
set_option linter.unusedSimpArgs false
set_option maxRecDepth 10000
namespace Go.Proofs.Ytcmlghemanjaaaa
open Go Go.RowKit Sl Pg

set_option maxRecDepth 100000
theorem ca22 : Callable Go.Proofs.Try.prog 22 := by unfold Callable; kernel_rfl
theorem fa64_1 : (Go.Proofs.Try.prog.underlying 64).bind (fun | .struct fs => (fs[1]?).bind fun f => (Go.Proofs.Try.prog.info? f.type).map fun j => (f.offset, j.size == 0) | _ => none) = some (1, false) := by kernel_rfl
theorem fa64_2 : (Go.Proofs.Try.prog.underlying 64).bind (fun | .struct fs => (fs[2]?).bind fun f => (Go.Proofs.Try.prog.info? f.type).map fun j => (f.offset, j.size == 0) | _ => none) = some (2, false) := by kernel_rfl
theorem fa64_3 : (Go.Proofs.Try.prog.underlying 64).bind (fun | .struct fs => (fs[3]?).bind fun f => (Go.Proofs.Try.prog.info? f.type).map fun j => (f.offset, j.size == 0) | _ => none) = some (3, false) := by kernel_rfl
theorem kf69 : KeyFields Go.Proofs.Try.prog 69 4 := ⟨_, Go.Proofs.Try.underlying69, by kernel_rfl, by kernel_rfl, rfl, by kernel_rfl, ⟨90, by kernel_rfl⟩, by kernel_rfl⟩
theorem pl64 : Places Go.Proofs.Try.prog 64 [(0, 1), (1, 1), (2, 1), (3, 1)] := ⟨_, Go.Proofs.Try.underlying64, by kernel_rfl⟩
theorem sc62 : Scal Go.Proofs.Try.prog 62 := ⟨by kernel_rfl, by kernel_rfl⟩
theorem sz27 : (Go.Proofs.Try.prog.info? 27).map (·.size) = some 1 := by kernel_rfl
theorem ze64 : TyZ Go.Proofs.Try.prog 64 (.agg #[(.slice none 0 0), (.map none), (.map none), (.int .i64 0)]) 4 48 := by unfold TyZ; kernel_rfl
set_option maxRecDepth 10000

theorem laidOut : laidOutB Try.prog = true := by kernel_rfl
/-- Keys of package share. -/
noncomputable def keyT : Keyer Try.prog 69 (Int × Int × Int × Int) := key4 laidOut kf69 (by kernel_rfl) (by kernel_rfl)
theorem keyT_f (k : Int × Int × Int × Int) : (keyT).f k = .agg #[.int .i64 k.1, .int .i64 k.2.1, .int .i64 k.2.2.1, .int .i64 k.2.2.2] := rfl
abbrev vI (x : Int) : Value := .int .i64 x
noncomputable abbrev tabMap (b : Nat) (m : List (Key × Int)) : Ch := mapE keyT vI b m

set_option maxHeartbeats 1000000 in
theorem reckon_w (bT : Nat) (Ha : Option Addr) (hc b1 b2 : Nat) (t : Tab) (n : Int) (i : Ins) (regs b : Int) (hf : Fine t regs b) (hb : b ≤ 1000000) (hr : regs ≤ 128) (hm : May i regs) :
    Tri Try.prog 17 #[.pointer (some ⟨bT, 0, none⟩), .int .i64 n, vIn i] [] [tabCell bT Ha t.held.length hc b1 b2 t.next, rowE (encI .i64) 3 Ha hc t.held, tabMap b1 t.known, tabMap b2 t.first] (fun u L' => u = .tuple #[.int .i64 (reckon t n i).1, .int .i64 (reckon t n i).2.1] ∧ L' = [tabCell bT Ha t.held.length hc b1 b2 (reckon t n i).2.2.next, rowE (encI .i64) 3 Ha hc t.held, tabMap b1 (reckon t n i).2.2.known, tabMap b2 (reckon t n i).2.2.first]) := by
  have hnx := hf.nx
  have hln := hf.len
  have hma := may_a hm
  have hat := at_some (l := t.held) hma.1 (by omega)
  refine Tri.of' 74 [.pointer (some ⟨bT, 0, none⟩), .int .i64 n, vIn i] [(0, .pointer (some ⟨bT, 0, none⟩)), (1, .int .i64 n), (2, vIn i)] Try.func17 Try.ntmps17 rfl rfl rfl ?_
  intro w0
  refine H.seq ?_
  refine H.region ?_
  refine HO.box rfl rfl (ltn rfl) ?_
  intro b5
  refine HO.v (V.assign rfl) (ltn rfl) ?_
  refine HO.v (V.assign rfl) (ltn rfl) ?_
  refine HO.nil ?_
  refine HQ.next ?_
  refine H.seq ?_
  refine H.seq ?_
  refine H.region ?_
  refine HO.v (V.fieldAddr (fs := #[]) fa50_0 rfl) (ltn rfl) ?_
  refine HO.v (V.load sc3 rfl (by exact .mk .here rfl)) (ltn rfl) ?_
  refine HO.v (V.eqlI rfl rfl) (ltn rfl) ?_
  refine HO.nil ?_
  refine HQ.keep (.cons (t := 0) rfl (.cons (t := 1) rfl (.cons (t := 5) rfl (.cons (t := 6) rfl (.cons (t := 7) rfl (.cons (t := 13) rfl (.nil))))))) ?_
  refine HQ.next ?_
  refine H.condB rfl (fun h13 => ?_) (fun h13 => ?_)
  · skip
    try simp only [decide_eq_true_eq, decide_eq_false_iff_not, Bool.not_eq_true', Bool.not_eq_false'] at h13
    refine H.seq ?_
    refine H.drawsP _ [] [[], [0], [1], [2], [], [4], [3, 5], [6], [7, 0, 1, 2, 3, 4, 5, 6, 7], [8, 0, 1, 2, 3, 4, 5, 6, 7, 8]] (.take 0 (.take 1 (.take 2 (.take 3 (.take 4 (.take 5 (.take 6 (.take 7 (.take 8 (.take 9 .done)))))))))) (Picks.sub (.cons (i := 0) rfl (.cons (i := 1) rfl (.cons (i := 2) rfl (.cons (i := 3) rfl (.nil)))))) (by kernel_rfl) (by kernel_rfl) (by kernel_rfl) (by kernel_rfl) (by kernel_rfl) ?_
    refine HP.take (i := 0) rfl rfl (ltn rfl) (gives_of want_none (V.move rfl)) (.cons (by exact (.head _)) (.cons (by exact (.tail _ (.head _))) (.cons (by exact (.tail _ (.tail _ (.head _)))) (.cons (by exact (.tail _ (.tail _ (.tail _ (.head _))))) (Sub.nil))))) ?_
    refine HP.take (i := 1) rfl rfl (ltn rfl) (gives_of want_none (V.nilCheck rfl)) (.cons (by exact (.head _)) (.cons (by exact (.tail _ (.head _))) (.cons (by exact (.tail _ (.tail _ (.head _)))) (.cons (by exact (.tail _ (.tail _ (.tail _ (.head _))))) (Sub.nil))))) ?_
    refine HP.take (i := 2) rfl rfl (ltn rfl) (gives_of want_none (V.fieldAddr (fs := #[]) fa64_0 rfl)) (.cons (by exact (.head _)) (.cons (by exact (.tail _ (.head _))) (.cons (by exact (.tail _ (.tail _ (.head _)))) (.cons (by exact (.tail _ (.tail _ (.tail _ (.head _))))) (Sub.nil))))) ?_
    refine HP.take (i := 3) rfl rfl (ltn rfl) (gives_of want_none (V.load sc27 rfl (by exact .mk (.there .here) rfl))) (.cons (by exact (.head _)) (.cons (by exact (.tail _ (.head _))) (.cons (by exact (.tail _ (.tail _ (.head _)))) (.cons (by exact (.tail _ (.tail _ (.tail _ (.head _))))) (Sub.nil))))) ?_
    refine HP.take (i := 4) rfl rfl (ltn rfl) (gives_of want_none (V.fieldAddr (fs := #[]) fa50_2 rfl)) (.cons (by exact (.head _)) (.cons (by exact (.tail _ (.head _))) (.cons (by exact (.tail _ (.tail _ (.head _)))) (.cons (by exact (.tail _ (.tail _ (.tail _ (.head _))))) (Sub.nil))))) ?_
    refine HP.take (i := 5) rfl rfl (ltn rfl) (gives_of want_none (V.load sc3 rfl (by exact .mk .here rfl))) (.cons (by exact (.head _)) (.cons (by exact (.tail _ (.head _))) (.cons (by exact (.tail _ (.tail _ (.head _)))) (.cons (by exact (.tail _ (.tail _ (.tail _ (.head _))))) (Sub.nil))))) ?_
    refine HP.take (i := 6) rfl rfl (ltn rfl) (gives_of want_none (V.indexAddr (N := (encI .i64)) (ys := _) Try.underlying27 sz3 rfl rfl (by omega) (by omega) (by exact Has.own (.there (.there .here))))) (.cons (by exact (.head _)) (.cons (by exact (.tail _ (.head _))) (.cons (by exact (.tail _ (.tail _ (.head _)))) (.cons (by exact (.tail _ (.tail _ (.tail _ (.head _))))) (Sub.nil))))) ?_
    refine HP.take (i := 7) rfl rfl (ltn rfl) (gives_of want_none (V.loadE (N := (encI .i64)) sc3 rfl (by exact .mk (Has.own (.there (.there .here))) (hat) rfl))) (.cons (by exact (.head _)) (.cons (by exact (.tail _ (.head _))) (.cons (by exact (.tail _ (.tail _ (.head _)))) (.cons (by exact (.tail _ (.tail _ (.tail _ (.head _))))) (Sub.nil))))) ?_
    refine HP.take (i := 8) rfl rfl (ltn rfl) (gives_of want_none (V.assign rfl)) (.cons (by exact (.head _)) (.cons (by exact (.tail _ (.head _))) (.cons (by exact (.tail _ (.tail _ (.head _)))) (.cons (by exact (.tail _ (.tail _ (.tail _ (.head _))))) (Sub.nil))))) ?_
    refine HP.take (i := 9) rfl rfl (ltn rfl) (gives_of want_none (V.assign rfl)) (.cons (by exact (.head _)) (.cons (by exact (.tail _ (.head _))) (.cons (by exact (.tail _ (.tail _ (.head _)))) (.cons (by exact (.tail _ (.tail _ (.tail _ (.head _))))) (Sub.nil))))) ?_
    refine HP.done ?_
    refine HQ.keep (.cons (t := 0) rfl (.cons (t := 1) rfl (.cons (t := 5) rfl (.cons (t := 6) rfl (.cons (t := 7) rfl (.nil)))))) ?_
    refine HQ.next ?_
    refine H.ret ?_
    refine HQ.then_ret ?_
    refine HQ.end_ rfl rfl rfl rfl (.inl rfl) _ (fun a w s => res2 Try.results17 s rfl rfl) ?_
    refine ⟨[tabCell bT Ha t.held.length hc b1 b2 t.next, rowE (encI .i64) 3 Ha hc t.held, tabMap b1 t.known, tabMap b2 t.first], _, (by exact Rems.cons (by exact (.there .here)) (Rems.cons (by exact (.there .here)) (Rems.cons (by exact (.there .here)) (Rems.cons (by exact (.there .here)) (Rems.nil))))), ?_⟩
    rw [show reckon t n i = (at_ t.held i.a, -1, t) by unfold reckon; rw [if_pos h13]]
    exact ⟨rfl, rfl⟩
  · skip
    try simp only [decide_eq_true_eq, decide_eq_false_iff_not, Bool.not_eq_true', Bool.not_eq_false'] at h13
    refine H.skip ?_
    refine HQ.next ?_
    refine H.seq ?_
    refine H.region ?_
    refine HO.v (V.move rfl) (ltn rfl) ?_
    refine HO.v (V.loadA ag50 rfl (by exact .mk .here (by repeat constructor))) (ltn rfl) ?_
    refine HO.call ca22 (.cons rfl (.cons rfl (.nil))) (keyed_w bT Ha hc b1 b2 t.next t.held i (by omega) hm.op1 hm.op8 ⟨hma.1, by omega⟩ (fun h => by have := may_b hm h; omega)) (by exact Rems.nil) (by (refine Reads.own (.tail _ (.head _)) ?_); (refine Reads.row (.tail _ (.tail _ (.head _))) ?_); exact Reads.nil) (ltn rfl) ?_
    rintro v24 L24 ⟨rfl, rfl⟩
    dsimp only [List.nil_append, List.cons_append]
    refine HO.alloc ze69 rfl (ltn rfl) ?_
    intro b8
    refine HO.store sz69 rfl rfl rfl rfl rfl (by exact .mk .here (by repeat constructor)) ?_
    refine HO.nil ?_
    refine HQ.keep (.cons (t := 0) rfl (.cons (t := 1) rfl (.cons (t := 6) rfl (.cons (t := 7) rfl (.cons (t := 8) rfl (.nil)))))) ?_
    refine HQ.next ?_
    refine H.seq ?_
    refine H.seq ?_
    refine H.drawsP _ [] [[], [0], [1], [2], [], [3, 4], [5], [6], [6], [7, 0, 1, 2, 3, 4, 5, 6, 7], [8, 9, 0, 1, 2, 3, 4, 5, 6, 7, 8, 9]] (.take 0 (.take 1 (.take 2 (.take 3 (.take 4 (.take 5 (.take 6 (.take 7 (.take 8 (.take 9 (.take 10 .done))))))))))) (Picks.sub (.cons (i := 0) rfl (.cons (i := 1) rfl (.cons (i := 2) rfl (.cons (i := 3) rfl (.cons (i := 4) rfl (.cons (i := 5) rfl (.nil)))))))) (by kernel_rfl) (by kernel_rfl) (by kernel_rfl) (by kernel_rfl) (by kernel_rfl) ?_
    refine HP.take (i := 0) rfl rfl (ltn rfl) (gives_of want_none (V.move rfl)) (.cons (by exact (.head _)) (.cons (by exact (.tail _ (.head _))) (.cons (by exact (.tail _ (.tail _ (.head _)))) (.cons (by exact (.tail _ (.tail _ (.tail _ (.head _))))) (.cons (by exact (.tail _ (.tail _ (.tail _ (.tail _ (.head _)))))) (.cons (by exact (.tail _ (.tail _ (.tail _ (.tail _ (.tail _ (.head _))))))) (Sub.nil))))))) ?_
    refine HP.take (i := 1) rfl rfl (ltn rfl) (gives_of want_none (V.nilCheck rfl)) (.cons (by exact (.head _)) (.cons (by exact (.tail _ (.head _))) (.cons (by exact (.tail _ (.tail _ (.head _)))) (.cons (by exact (.tail _ (.tail _ (.tail _ (.head _))))) (.cons (by exact (.tail _ (.tail _ (.tail _ (.tail _ (.head _)))))) (.cons (by exact (.tail _ (.tail _ (.tail _ (.tail _ (.tail _ (.head _))))))) (Sub.nil))))))) ?_
    refine HP.take (i := 2) rfl rfl (ltn rfl) (gives_of want_none (V.fieldAddr (fs := #[]) fa64_1 rfl)) (.cons (by exact (.head _)) (.cons (by exact (.tail _ (.head _))) (.cons (by exact (.tail _ (.tail _ (.head _)))) (.cons (by exact (.tail _ (.tail _ (.tail _ (.head _))))) (.cons (by exact (.tail _ (.tail _ (.tail _ (.tail _ (.head _)))))) (.cons (by exact (.tail _ (.tail _ (.tail _ (.tail _ (.tail _ (.head _))))))) (Sub.nil))))))) ?_
    refine HP.take (i := 3) rfl rfl (ltn rfl) (gives_of want_none (V.load sc62 rfl (by exact .mk (.there (.there .here)) rfl))) (.cons (by exact (.head _)) (.cons (by exact (.tail _ (.head _))) (.cons (by exact (.tail _ (.tail _ (.head _)))) (.cons (by exact (.tail _ (.tail _ (.tail _ (.head _))))) (.cons (by exact (.tail _ (.tail _ (.tail _ (.tail _ (.head _)))))) (.cons (by exact (.tail _ (.tail _ (.tail _ (.tail _ (.tail _ (.head _))))))) (Sub.nil))))))) ?_
    refine HP.take (i := 4) rfl rfl (ltn rfl) (gives_of want_none (V.loadA ag69 rfl (by exact .mk .here (by repeat constructor)))) (.cons (by exact (.head _)) (.cons (by exact (.tail _ (.head _))) (.cons (by exact (.tail _ (.tail _ (.head _)))) (.cons (by exact (.tail _ (.tail _ (.tail _ (.head _))))) (.cons (by exact (.tail _ (.tail _ (.tail _ (.tail _ (.head _)))))) (.cons (by exact (.tail _ (.tail _ (.tail _ (.tail _ (.tail _ (.head _))))))) (Sub.nil))))))) ?_
    refine HP.take (i := 5) rfl rfl (ltn rfl) (gives_of want_none (V.lookup2 (K := keyT) (vf := vI) (v0 := 0) (k := (keyed t.held i)) Try.underlying62 ze3 rfl rfl (by exact keyed_key hf hb hm) (by exact HasM.own (.there (.there (.there (.there .here))))))) (.cons (by exact (.head _)) (.cons (by exact (.tail _ (.head _))) (.cons (by exact (.tail _ (.tail _ (.head _)))) (.cons (by exact (.tail _ (.tail _ (.tail _ (.head _))))) (.cons (by exact (.tail _ (.tail _ (.tail _ (.tail _ (.head _)))))) (.cons (by exact (.tail _ (.tail _ (.tail _ (.tail _ (.tail _ (.head _))))))) (Sub.nil))))))) ?_
    refine HP.take (i := 6) rfl rfl (ltn rfl) (gives_of want_none (V.move rfl)) (.cons (by exact (.head _)) (.cons (by exact (.tail _ (.head _))) (.cons (by exact (.tail _ (.tail _ (.head _)))) (.cons (by exact (.tail _ (.tail _ (.tail _ (.head _))))) (.cons (by exact (.tail _ (.tail _ (.tail _ (.tail _ (.head _)))))) (.cons (by exact (.tail _ (.tail _ (.tail _ (.tail _ (.tail _ (.head _))))))) (Sub.nil))))))) ?_
    refine HP.take (i := 7) rfl rfl (ltn rfl) (gives_of want_none (V.extract rfl rfl)) (.cons (by exact (.head _)) (.cons (by exact (.tail _ (.head _))) (.cons (by exact (.tail _ (.tail _ (.head _)))) (.cons (by exact (.tail _ (.tail _ (.tail _ (.head _))))) (.cons (by exact (.tail _ (.tail _ (.tail _ (.tail _ (.head _)))))) (.cons (by exact (.tail _ (.tail _ (.tail _ (.tail _ (.tail _ (.head _))))))) (Sub.nil))))))) ?_
    refine HP.take (i := 8) rfl rfl (ltn rfl) (gives_of want_none (V.extract rfl rfl)) (.cons (by exact (.head _)) (.cons (by exact (.tail _ (.head _))) (.cons (by exact (.tail _ (.tail _ (.head _)))) (.cons (by exact (.tail _ (.tail _ (.tail _ (.head _))))) (.cons (by exact (.tail _ (.tail _ (.tail _ (.tail _ (.head _)))))) (.cons (by exact (.tail _ (.tail _ (.tail _ (.tail _ (.tail _ (.head _))))))) (Sub.nil))))))) ?_
    refine HP.take (i := 9) rfl rfl (ltn rfl) (gives_of want_none (V.assign rfl)) (.cons (by exact (.head _)) (.cons (by exact (.tail _ (.head _))) (.cons (by exact (.tail _ (.tail _ (.head _)))) (.cons (by exact (.tail _ (.tail _ (.tail _ (.head _))))) (.cons (by exact (.tail _ (.tail _ (.tail _ (.tail _ (.head _)))))) (.cons (by exact (.tail _ (.tail _ (.tail _ (.tail _ (.tail _ (.head _))))))) (Sub.nil))))))) ?_
    refine HP.take (i := 10) rfl rfl (ltn rfl) (gives_of want_none (V.assign rfl)) (.cons (by exact (.head _)) (.cons (by exact (.tail _ (.head _))) (.cons (by exact (.tail _ (.tail _ (.head _)))) (.cons (by exact (.tail _ (.tail _ (.tail _ (.head _))))) (.cons (by exact (.tail _ (.tail _ (.tail _ (.tail _ (.head _)))))) (.cons (by exact (.tail _ (.tail _ (.tail _ (.tail _ (.tail _ (.head _))))))) (Sub.nil))))))) ?_
    refine HP.done ?_
    refine HQ.keep (.cons (t := 0) rfl (.cons (t := 1) rfl (.cons (t := 6) rfl (.cons (t := 7) rfl (.cons (t := 8) rfl (.cons (t := 10) rfl (.nil))))))) ?_
    refine HQ.next ?_
    refine H.seq ?_
    refine H.region ?_
    refine HO.v (V.move rfl) (ltn rfl) ?_
    refine HO.v (V.not rfl) (ltn rfl) ?_
    refine HO.nil ?_
    refine HQ.keep (.cons (t := 0) rfl (.cons (t := 1) rfl (.cons (t := 6) rfl (.cons (t := 7) rfl (.cons (t := 8) rfl (.cons (t := 35) rfl (.nil))))))) ?_
    refine HQ.next ?_
    refine H.condB rfl (fun h35 => ?_) (fun h35 => ?_)
    · skip
      try simp only [decide_eq_true_eq, decide_eq_false_iff_not, Bool.not_eq_true', Bool.not_eq_false'] at h35
      refine H.seq ?_
      refine H.drawsP _ [] [[], [0], [1], [2], [], [], [5], [6], [7], [], [], [10], [11], [12], [], [3, 4, 8], [15], [3, 16, 13, 15, 0, 1, 2, 3, 4, 8, 10, 11, 12, 13, 15], [8, 9, 17, 0, 1, 2, 3, 4, 8, 10, 11, 12, 13, 15, 16, 17], [18], [8, 19, 14, 18, 0, 1, 2, 3, 4, 5, 6, 7, 8, 9, 10, 11, 12, 13, 14, 15, 16, 17, 18]] (.take 0 (.take 1 (.take 2 (.take 3 (.take 4 (.take 5 (.take 6 (.take 7 (.take 8 (.take 9 (.take 10 (.take 11 (.take 12 (.take 13 (.take 14 (.one 15 (.take 16 (.one 17 (.one 18 (.take 19 (.one 20 .done))))))))))))))))))))) (Picks.sub (.cons (i := 0) rfl (.cons (i := 1) rfl (.cons (i := 2) rfl (.nil))))) (by kernel_rfl) (by kernel_rfl) (by kernel_rfl) (by kernel_rfl) (by kernel_rfl) ?_
      refine HP.take (i := 0) rfl rfl (ltn rfl) (gives_of want_none (V.move rfl)) (.cons (by exact (.head _)) (.cons (by exact (.tail _ (.head _))) (.cons (by exact (.tail _ (.tail _ (.head _)))) (Sub.nil)))) ?_
      refine HP.take (i := 1) rfl rfl (ltn rfl) (gives_of want_none (V.nilCheck rfl)) (.cons (by exact (.head _)) (.cons (by exact (.tail _ (.head _))) (.cons (by exact (.tail _ (.tail _ (.head _)))) (Sub.nil)))) ?_
      refine HP.take (i := 2) rfl rfl (ltn rfl) (gives_of want_none (V.fieldAddr (fs := #[]) fa64_1 rfl)) (.cons (by exact (.head _)) (.cons (by exact (.tail _ (.head _))) (.cons (by exact (.tail _ (.tail _ (.head _)))) (Sub.nil)))) ?_
      refine HP.take (i := 3) rfl rfl (ltn rfl) (gives_of want_none (V.load sc62 rfl (by exact .mk (.there (.there .here)) rfl))) (.cons (by exact (.head _)) (.cons (by exact (.tail _ (.head _))) (.cons (by exact (.tail _ (.tail _ (.head _)))) (Sub.nil)))) ?_
      refine HP.take (i := 4) rfl rfl (ltn rfl) (gives_of want_none (V.loadA ag69 rfl (by exact .mk .here (by repeat constructor)))) (.cons (by exact (.head _)) (.cons (by exact (.tail _ (.head _))) (.cons (by exact (.tail _ (.tail _ (.head _)))) (Sub.nil)))) ?_
      refine HP.take (i := 5) rfl rfl (ltn rfl) (gives_of want_none (V.move rfl)) (.cons (by exact (.head _)) (.cons (by exact (.tail _ (.head _))) (.cons (by exact (.tail _ (.tail _ (.head _)))) (Sub.nil)))) ?_
      refine HP.take (i := 6) rfl rfl (ltn rfl) (gives_of want_none (V.nilCheck rfl)) (.cons (by exact (.head _)) (.cons (by exact (.tail _ (.head _))) (.cons (by exact (.tail _ (.tail _ (.head _)))) (Sub.nil)))) ?_
      refine HP.take (i := 7) rfl rfl (ltn rfl) (gives_of want_none (V.fieldAddr (fs := #[]) fa64_2 rfl)) (.cons (by exact (.head _)) (.cons (by exact (.tail _ (.head _))) (.cons (by exact (.tail _ (.tail _ (.head _)))) (Sub.nil)))) ?_
      refine HP.take (i := 8) rfl rfl (ltn rfl) (gives_of want_none (V.load sc62 rfl (by exact .mk (.there (.there .here)) rfl))) (.cons (by exact (.head _)) (.cons (by exact (.tail _ (.head _))) (.cons (by exact (.tail _ (.tail _ (.head _)))) (Sub.nil)))) ?_
      refine HP.take (i := 9) rfl rfl (ltn rfl) (gives_of want_none (V.loadA ag69 rfl (by exact .mk .here (by repeat constructor)))) (.cons (by exact (.head _)) (.cons (by exact (.tail _ (.head _))) (.cons (by exact (.tail _ (.tail _ (.head _)))) (Sub.nil)))) ?_
      refine HP.take (i := 10) rfl rfl (ltn rfl) (gives_of want_none (V.move rfl)) (.cons (by exact (.head _)) (.cons (by exact (.tail _ (.head _))) (.cons (by exact (.tail _ (.tail _ (.head _)))) (Sub.nil)))) ?_
      refine HP.take (i := 11) rfl rfl (ltn rfl) (gives_of want_none (V.nilCheck rfl)) (.cons (by exact (.head _)) (.cons (by exact (.tail _ (.head _))) (.cons (by exact (.tail _ (.tail _ (.head _)))) (Sub.nil)))) ?_
      refine HP.take (i := 12) rfl rfl (ltn rfl) (gives_of want_none (V.fieldAddr (fs := #[]) fa64_3 rfl)) (.cons (by exact (.head _)) (.cons (by exact (.tail _ (.head _))) (.cons (by exact (.tail _ (.tail _ (.head _)))) (Sub.nil)))) ?_
      refine HP.take (i := 13) rfl rfl (ltn rfl) (gives_of want_none (V.load sc3 rfl (by exact .mk (.there (.there .here)) rfl))) (.cons (by exact (.head _)) (.cons (by exact (.tail _ (.head _))) (.cons (by exact (.tail _ (.tail _ (.head _)))) (Sub.nil)))) ?_
      refine HP.take (i := 14) rfl rfl (ltn rfl) (gives_of want_none (V.move rfl)) (.cons (by exact (.head _)) (.cons (by exact (.tail _ (.head _))) (.cons (by exact (.tail _ (.tail _ (.head _)))) (Sub.nil)))) ?_
      refine HP.one (i := 15) rfl ?_
      intro fuel listed hno haf hrp hpk hfs
      refine HO.mapEntry (K := keyT) (vf := vI) (v0 := 0) (k := (keyed t.held i)) Try.underlying62 ze3 rfl rfl (by exact keyed_key hf hb hm) (by exact (.there (.there (.there (.there .here))))) (ltn rfl) ?_
      intro s51
      refine HO.nil ?_
      refine HQ.nxt hno haf hrp hpk hfs (.cons (by exact (.tail _ (.head _))) (.cons (by exact (.tail _ (.tail _ (.head _)))) (.cons (by exact (.tail _ (.tail _ (.tail _ (.head _))))) (Sub.nil)))) ?_
      refine HP.take (i := 16) rfl rfl (ltn rfl) (gives_of want_none (V.extract rfl rfl)) (.cons (by exact (.tail _ (.head _))) (.cons (by exact (.tail _ (.tail _ (.head _)))) (.cons (by exact (.tail _ (.tail _ (.tail _ (.head _))))) (Sub.nil)))) ?_
      refine HP.one (i := 17) rfl ?_
      intro fuel listed hno haf hrp hpk hfs
      refine HO.entryStore (K := keyT) (vf := vI) (k := (keyed t.held i)) (v := t.next) rfl rfl rfl (by exact .here) ?_
      refine HO.nil ?_
      refine HQ.nxt hno haf hrp hpk hfs (.cons (by exact (.tail _ (.head _))) (.cons (by exact (.tail _ (.tail _ (.head _)))) (.cons (by exact (.tail _ (.tail _ (.tail _ (.head _))))) (Sub.nil)))) ?_
      refine HP.one (i := 18) rfl ?_
      intro fuel listed hno haf hrp hpk hfs
      refine HO.mapEntry (K := keyT) (vf := vI) (v0 := 0) (k := (keyed t.held i)) Try.underlying62 ze3 rfl rfl (by exact keyed_key hf hb hm) (by exact (.there (.there (.there (.there (.there .here)))))) (ltn rfl) ?_
      intro s53
      refine HO.nil ?_
      refine HQ.nxt hno haf hrp hpk hfs (.cons (by exact (.tail _ (.tail _ (.head _)))) (.cons (by exact (.tail _ (.tail _ (.tail _ (.head _))))) (.cons (by exact (.tail _ (.tail _ (.tail _ (.tail _ (.head _)))))) (Sub.nil)))) ?_
      refine HP.take (i := 19) rfl rfl (ltn rfl) (gives_of want_none (V.extract rfl rfl)) (.cons (by exact (.tail _ (.tail _ (.head _)))) (.cons (by exact (.tail _ (.tail _ (.tail _ (.head _))))) (.cons (by exact (.tail _ (.tail _ (.tail _ (.tail _ (.head _)))))) (Sub.nil)))) ?_
      refine HP.one (i := 20) rfl ?_
      intro fuel listed hno haf hrp hpk hfs
      refine HO.entryStore (K := keyT) (vf := vI) (k := (keyed t.held i)) (v := n) rfl rfl rfl (by exact .here) ?_
      refine HO.nil ?_
      refine HQ.nxt hno haf hrp hpk hfs (.cons (by exact (.tail _ (.tail _ (.head _)))) (.cons (by exact (.tail _ (.tail _ (.tail _ (.head _))))) (.cons (by exact (.tail _ (.tail _ (.tail _ (.tail _ (.head _)))))) (Sub.nil)))) ?_
      refine HP.done ?_
      refine HQ.keep (.cons (t := 0) rfl (.cons (t := 6) rfl (.cons (t := 7) rfl (.cons (t := 8) rfl (.nil))))) ?_
      refine HQ.next ?_
      refine H.region ?_
      refine HO.v (V.move rfl) (ltn rfl) ?_
      refine HO.v (V.nilCheck rfl) (ltn rfl) ?_
      refine HO.v (V.fieldAddr (fs := #[]) fa64_3 rfl) (ltn rfl) ?_
      refine HO.v (V.load sc3 rfl (by exact .mk (.there (.there (.there (.there .here)))) rfl)) (ltn rfl) ?_
      refine HO.v (V.add rfl rfl (by omega)) (ltn rfl) ?_
      refine HO.v (V.nilCheck rfl) (ltn rfl) ?_
      refine HO.v (V.fieldAddr (fs := #[]) fa64_3 rfl) (ltn rfl) ?_
      refine HO.store sz3 rfl rfl rfl rfl rfl (by exact .mk (.there (.there (.there (.there .here)))) (by repeat constructor)) ?_
      refine HO.nil ?_
      refine HQ.keep (.cons (t := 0) rfl (.cons (t := 6) rfl (.cons (t := 7) rfl (.cons (t := 8) rfl (.nil))))) ?_
      refine HQ.next ?_
      refine H.seq ?_
      refine H.drawsP _ [] [[], [0], [1], [2], [], [3, 4], [], [6], [7], [8], [], [9, 10], [5, 0, 1, 2, 3, 4, 5], [11, 12, 0, 1, 2, 3, 4, 5, 6, 7, 8, 9, 10, 11, 12]] (.take 0 (.take 1 (.take 2 (.take 3 (.take 4 (.take 5 (.take 6 (.take 7 (.take 8 (.take 9 (.take 10 (.take 11 (.take 12 (.take 13 .done)))))))))))))) (Picks.sub (.cons (i := 0) rfl (.cons (i := 1) rfl (.cons (i := 2) rfl (.cons (i := 3) rfl (.cons (i := 4) rfl (.cons (i := 5) rfl (.nil)))))))) (by kernel_rfl) (by kernel_rfl) (by kernel_rfl) (by kernel_rfl) (by kernel_rfl) ?_
      refine HP.take (i := 0) rfl rfl (ltn rfl) (gives_of want_none (V.move rfl)) (.cons (by exact (.head _)) (.cons (by exact (.tail _ (.head _))) (.cons (by exact (.tail _ (.tail _ (.head _)))) (.cons (by exact (.tail _ (.tail _ (.tail _ (.head _))))) (.cons (by exact (.tail _ (.tail _ (.tail _ (.tail _ (.head _)))))) (.cons (by exact (.tail _ (.tail _ (.tail _ (.tail _ (.tail _ (.head _))))))) (Sub.nil))))))) ?_
      refine HP.take (i := 1) rfl rfl (ltn rfl) (gives_of want_none (V.nilCheck rfl)) (.cons (by exact (.head _)) (.cons (by exact (.tail _ (.head _))) (.cons (by exact (.tail _ (.tail _ (.head _)))) (.cons (by exact (.tail _ (.tail _ (.tail _ (.head _))))) (.cons (by exact (.tail _ (.tail _ (.tail _ (.tail _ (.head _)))))) (.cons (by exact (.tail _ (.tail _ (.tail _ (.tail _ (.tail _ (.head _))))))) (Sub.nil))))))) ?_
      refine HP.take (i := 2) rfl rfl (ltn rfl) (gives_of want_none (V.fieldAddr (fs := #[]) fa64_1 rfl)) (.cons (by exact (.head _)) (.cons (by exact (.tail _ (.head _))) (.cons (by exact (.tail _ (.tail _ (.head _)))) (.cons (by exact (.tail _ (.tail _ (.tail _ (.head _))))) (.cons (by exact (.tail _ (.tail _ (.tail _ (.tail _ (.head _)))))) (.cons (by exact (.tail _ (.tail _ (.tail _ (.tail _ (.tail _ (.head _))))))) (Sub.nil))))))) ?_
      refine HP.take (i := 3) rfl rfl (ltn rfl) (gives_of want_none (V.load sc62 rfl (by exact .mk .here rfl))) (.cons (by exact (.head _)) (.cons (by exact (.tail _ (.head _))) (.cons (by exact (.tail _ (.tail _ (.head _)))) (.cons (by exact (.tail _ (.tail _ (.tail _ (.head _))))) (.cons (by exact (.tail _ (.tail _ (.tail _ (.tail _ (.head _)))))) (.cons (by exact (.tail _ (.tail _ (.tail _ (.tail _ (.tail _ (.head _))))))) (Sub.nil))))))) ?_
      refine HP.take (i := 4) rfl rfl (ltn rfl) (gives_of want_none (V.loadA ag69 rfl (by exact .mk (.there (.there (.there .here))) (by repeat constructor)))) (.cons (by exact (.head _)) (.cons (by exact (.tail _ (.head _))) (.cons (by exact (.tail _ (.tail _ (.head _)))) (.cons (by exact (.tail _ (.tail _ (.tail _ (.head _))))) (.cons (by exact (.tail _ (.tail _ (.tail _ (.tail _ (.head _)))))) (.cons (by exact (.tail _ (.tail _ (.tail _ (.tail _ (.tail _ (.head _))))))) (Sub.nil))))))) ?_
      refine HP.take (i := 5) rfl rfl (ltn rfl) (gives_of want_none (V.lookup (K := keyT) (vf := vI) (v0 := 0) (k := (keyed t.held i)) Try.underlying62 ze3 rfl rfl (by exact keyed_key hf hb hm) (by exact HasM.own (.there (.there .here))))) (.cons (by exact (.head _)) (.cons (by exact (.tail _ (.head _))) (.cons (by exact (.tail _ (.tail _ (.head _)))) (.cons (by exact (.tail _ (.tail _ (.tail _ (.head _))))) (.cons (by exact (.tail _ (.tail _ (.tail _ (.tail _ (.head _)))))) (.cons (by exact (.tail _ (.tail _ (.tail _ (.tail _ (.tail _ (.head _))))))) (Sub.nil))))))) ?_
      refine HP.take (i := 6) rfl rfl (ltn rfl) (gives_of want_none (V.move rfl)) (.cons (by exact (.head _)) (.cons (by exact (.tail _ (.head _))) (.cons (by exact (.tail _ (.tail _ (.head _)))) (.cons (by exact (.tail _ (.tail _ (.tail _ (.head _))))) (.cons (by exact (.tail _ (.tail _ (.tail _ (.tail _ (.head _)))))) (.cons (by exact (.tail _ (.tail _ (.tail _ (.tail _ (.tail _ (.head _))))))) (Sub.nil))))))) ?_
      refine HP.take (i := 7) rfl rfl (ltn rfl) (gives_of want_none (V.nilCheck rfl)) (.cons (by exact (.head _)) (.cons (by exact (.tail _ (.head _))) (.cons (by exact (.tail _ (.tail _ (.head _)))) (.cons (by exact (.tail _ (.tail _ (.tail _ (.head _))))) (.cons (by exact (.tail _ (.tail _ (.tail _ (.tail _ (.head _)))))) (.cons (by exact (.tail _ (.tail _ (.tail _ (.tail _ (.tail _ (.head _))))))) (Sub.nil))))))) ?_
      refine HP.take (i := 8) rfl rfl (ltn rfl) (gives_of want_none (V.fieldAddr (fs := #[]) fa64_2 rfl)) (.cons (by exact (.head _)) (.cons (by exact (.tail _ (.head _))) (.cons (by exact (.tail _ (.tail _ (.head _)))) (.cons (by exact (.tail _ (.tail _ (.tail _ (.head _))))) (.cons (by exact (.tail _ (.tail _ (.tail _ (.tail _ (.head _)))))) (.cons (by exact (.tail _ (.tail _ (.tail _ (.tail _ (.tail _ (.head _))))))) (Sub.nil))))))) ?_
      refine HP.take (i := 9) rfl rfl (ltn rfl) (gives_of want_none (V.load sc62 rfl (by exact .mk .here rfl))) (.cons (by exact (.head _)) (.cons (by exact (.tail _ (.head _))) (.cons (by exact (.tail _ (.tail _ (.head _)))) (.cons (by exact (.tail _ (.tail _ (.tail _ (.head _))))) (.cons (by exact (.tail _ (.tail _ (.tail _ (.tail _ (.head _)))))) (.cons (by exact (.tail _ (.tail _ (.tail _ (.tail _ (.tail _ (.head _))))))) (Sub.nil))))))) ?_
      refine HP.take (i := 10) rfl rfl (ltn rfl) (gives_of want_none (V.loadA ag69 rfl (by exact .mk (.there (.there (.there .here))) (by repeat constructor)))) (.cons (by exact (.head _)) (.cons (by exact (.tail _ (.head _))) (.cons (by exact (.tail _ (.tail _ (.head _)))) (.cons (by exact (.tail _ (.tail _ (.tail _ (.head _))))) (.cons (by exact (.tail _ (.tail _ (.tail _ (.tail _ (.head _)))))) (.cons (by exact (.tail _ (.tail _ (.tail _ (.tail _ (.tail _ (.head _))))))) (Sub.nil))))))) ?_
      refine HP.take (i := 11) rfl rfl (ltn rfl) (gives_of want_none (V.lookup (K := keyT) (vf := vI) (v0 := 0) (k := (keyed t.held i)) Try.underlying62 ze3 rfl rfl (by exact keyed_key hf hb hm) (by exact HasM.own (.there .here)))) (.cons (by exact (.head _)) (.cons (by exact (.tail _ (.head _))) (.cons (by exact (.tail _ (.tail _ (.head _)))) (.cons (by exact (.tail _ (.tail _ (.tail _ (.head _))))) (.cons (by exact (.tail _ (.tail _ (.tail _ (.tail _ (.head _)))))) (.cons (by exact (.tail _ (.tail _ (.tail _ (.tail _ (.tail _ (.head _))))))) (Sub.nil))))))) ?_
      refine HP.take (i := 12) rfl rfl (ltn rfl) (gives_of want_none (V.assign rfl)) (.cons (by exact (.head _)) (.cons (by exact (.tail _ (.head _))) (.cons (by exact (.tail _ (.tail _ (.head _)))) (.cons (by exact (.tail _ (.tail _ (.tail _ (.head _))))) (.cons (by exact (.tail _ (.tail _ (.tail _ (.tail _ (.head _)))))) (.cons (by exact (.tail _ (.tail _ (.tail _ (.tail _ (.tail _ (.head _))))))) (Sub.nil))))))) ?_
      refine HP.take (i := 13) rfl rfl (ltn rfl) (gives_of want_none (V.assign rfl)) (.cons (by exact (.head _)) (.cons (by exact (.tail _ (.head _))) (.cons (by exact (.tail _ (.tail _ (.head _)))) (.cons (by exact (.tail _ (.tail _ (.tail _ (.head _))))) (.cons (by exact (.tail _ (.tail _ (.tail _ (.tail _ (.head _)))))) (.cons (by exact (.tail _ (.tail _ (.tail _ (.tail _ (.tail _ (.head _))))))) (Sub.nil))))))) ?_
      refine HP.done ?_
      refine HQ.keep (.cons (t := 6) rfl (.cons (t := 7) rfl (.nil))) ?_
      refine HQ.next ?_
      refine H.ret ?_
      refine HQ.end_ rfl rfl rfl rfl (.inl rfl) _ (fun a w s => res2 Try.results17 s rfl rfl) ?_
      refine ⟨[tabCell bT Ha t.held.length hc b1 b2 (t.next + 1), rowE (encI .i64) 3 Ha hc t.held, tabMap b1 (mput (mput t.known (keyed t.held i) ((mget t.known (keyed t.held i)).getD 0)) (keyed t.held i) t.next), tabMap b2 (mput (mput t.first (keyed t.held i) ((mget t.first (keyed t.held i)).getD 0)) (keyed t.held i) n)], _, (by exact Rems.cons (by exact .here) (Rems.cons (by exact (.there (.there (.there (.there .here))))) (Rems.cons (by exact (.there .here)) (Rems.cons (by exact .here) (Rems.nil))))), ?_⟩
      rw [show reckon t n i = (t.next, n, ⟨t.held, mput t.known (keyed t.held i) t.next, mput t.first (keyed t.held i) n, t.next + 1⟩) by unfold reckon; rw [if_neg h13]; rw [show mget t.known (keyed t.held i) = none by simpa using h35]]
      exact ⟨by simp only [mput_mput, mget_mput, if_true, Option.getD_some], by simp only [mput_mput]⟩
    · skip
      try simp only [decide_eq_true_eq, decide_eq_false_iff_not, Bool.not_eq_true', Bool.not_eq_false'] at h35
      refine H.skip ?_
      refine HQ.next ?_
      refine H.seq ?_
      refine H.drawsP _ [] [[], [0], [1], [2], [], [3, 4], [], [6], [7], [8], [], [9, 10], [5, 0, 1, 2, 3, 4, 5], [11, 12, 0, 1, 2, 3, 4, 5, 6, 7, 8, 9, 10, 11, 12]] (.take 0 (.take 1 (.take 2 (.take 3 (.take 4 (.take 5 (.take 6 (.take 7 (.take 8 (.take 9 (.take 10 (.take 11 (.take 12 (.take 13 .done)))))))))))))) (Picks.sub (.cons (i := 0) rfl (.cons (i := 1) rfl (.cons (i := 2) rfl (.cons (i := 3) rfl (.cons (i := 4) rfl (.cons (i := 5) rfl (.nil)))))))) (by kernel_rfl) (by kernel_rfl) (by kernel_rfl) (by kernel_rfl) (by kernel_rfl) ?_
      refine HP.take (i := 0) rfl rfl (ltn rfl) (gives_of want_none (V.move rfl)) (.cons (by exact (.head _)) (.cons (by exact (.tail _ (.head _))) (.cons (by exact (.tail _ (.tail _ (.head _)))) (.cons (by exact (.tail _ (.tail _ (.tail _ (.head _))))) (.cons (by exact (.tail _ (.tail _ (.tail _ (.tail _ (.head _)))))) (.cons (by exact (.tail _ (.tail _ (.tail _ (.tail _ (.tail _ (.head _))))))) (Sub.nil))))))) ?_
      refine HP.take (i := 1) rfl rfl (ltn rfl) (gives_of want_none (V.nilCheck rfl)) (.cons (by exact (.head _)) (.cons (by exact (.tail _ (.head _))) (.cons (by exact (.tail _ (.tail _ (.head _)))) (.cons (by exact (.tail _ (.tail _ (.tail _ (.head _))))) (.cons (by exact (.tail _ (.tail _ (.tail _ (.tail _ (.head _)))))) (.cons (by exact (.tail _ (.tail _ (.tail _ (.tail _ (.tail _ (.head _))))))) (Sub.nil))))))) ?_
      refine HP.take (i := 2) rfl rfl (ltn rfl) (gives_of want_none (V.fieldAddr (fs := #[]) fa64_1 rfl)) (.cons (by exact (.head _)) (.cons (by exact (.tail _ (.head _))) (.cons (by exact (.tail _ (.tail _ (.head _)))) (.cons (by exact (.tail _ (.tail _ (.tail _ (.head _))))) (.cons (by exact (.tail _ (.tail _ (.tail _ (.tail _ (.head _)))))) (.cons (by exact (.tail _ (.tail _ (.tail _ (.tail _ (.tail _ (.head _))))))) (Sub.nil))))))) ?_
      refine HP.take (i := 3) rfl rfl (ltn rfl) (gives_of want_none (V.load sc62 rfl (by exact .mk (.there (.there .here)) rfl))) (.cons (by exact (.head _)) (.cons (by exact (.tail _ (.head _))) (.cons (by exact (.tail _ (.tail _ (.head _)))) (.cons (by exact (.tail _ (.tail _ (.tail _ (.head _))))) (.cons (by exact (.tail _ (.tail _ (.tail _ (.tail _ (.head _)))))) (.cons (by exact (.tail _ (.tail _ (.tail _ (.tail _ (.tail _ (.head _))))))) (Sub.nil))))))) ?_
      refine HP.take (i := 4) rfl rfl (ltn rfl) (gives_of want_none (V.loadA ag69 rfl (by exact .mk .here (by repeat constructor)))) (.cons (by exact (.head _)) (.cons (by exact (.tail _ (.head _))) (.cons (by exact (.tail _ (.tail _ (.head _)))) (.cons (by exact (.tail _ (.tail _ (.tail _ (.head _))))) (.cons (by exact (.tail _ (.tail _ (.tail _ (.tail _ (.head _)))))) (.cons (by exact (.tail _ (.tail _ (.tail _ (.tail _ (.tail _ (.head _))))))) (Sub.nil))))))) ?_
      refine HP.take (i := 5) rfl rfl (ltn rfl) (gives_of want_none (V.lookup (K := keyT) (vf := vI) (v0 := 0) (k := (keyed t.held i)) Try.underlying62 ze3 rfl rfl (by exact keyed_key hf hb hm) (by exact HasM.own (.there (.there (.there (.there .here))))))) (.cons (by exact (.head _)) (.cons (by exact (.tail _ (.head _))) (.cons (by exact (.tail _ (.tail _ (.head _)))) (.cons (by exact (.tail _ (.tail _ (.tail _ (.head _))))) (.cons (by exact (.tail _ (.tail _ (.tail _ (.tail _ (.head _)))))) (.cons (by exact (.tail _ (.tail _ (.tail _ (.tail _ (.tail _ (.head _))))))) (Sub.nil))))))) ?_
      refine HP.take (i := 6) rfl rfl (ltn rfl) (gives_of want_none (V.move rfl)) (.cons (by exact (.head _)) (.cons (by exact (.tail _ (.head _))) (.cons (by exact (.tail _ (.tail _ (.head _)))) (.cons (by exact (.tail _ (.tail _ (.tail _ (.head _))))) (.cons (by exact (.tail _ (.tail _ (.tail _ (.tail _ (.head _)))))) (.cons (by exact (.tail _ (.tail _ (.tail _ (.tail _ (.tail _ (.head _))))))) (Sub.nil))))))) ?_
      refine HP.take (i := 7) rfl rfl (ltn rfl) (gives_of want_none (V.nilCheck rfl)) (.cons (by exact (.head _)) (.cons (by exact (.tail _ (.head _))) (.cons (by exact (.tail _ (.tail _ (.head _)))) (.cons (by exact (.tail _ (.tail _ (.tail _ (.head _))))) (.cons (by exact (.tail _ (.tail _ (.tail _ (.tail _ (.head _)))))) (.cons (by exact (.tail _ (.tail _ (.tail _ (.tail _ (.tail _ (.head _))))))) (Sub.nil))))))) ?_
      refine HP.take (i := 8) rfl rfl (ltn rfl) (gives_of want_none (V.fieldAddr (fs := #[]) fa64_2 rfl)) (.cons (by exact (.head _)) (.cons (by exact (.tail _ (.head _))) (.cons (by exact (.tail _ (.tail _ (.head _)))) (.cons (by exact (.tail _ (.tail _ (.tail _ (.head _))))) (.cons (by exact (.tail _ (.tail _ (.tail _ (.tail _ (.head _)))))) (.cons (by exact (.tail _ (.tail _ (.tail _ (.tail _ (.tail _ (.head _))))))) (Sub.nil))))))) ?_
      refine HP.take (i := 9) rfl rfl (ltn rfl) (gives_of want_none (V.load sc62 rfl (by exact .mk (.there (.there .here)) rfl))) (.cons (by exact (.head _)) (.cons (by exact (.tail _ (.head _))) (.cons (by exact (.tail _ (.tail _ (.head _)))) (.cons (by exact (.tail _ (.tail _ (.tail _ (.head _))))) (.cons (by exact (.tail _ (.tail _ (.tail _ (.tail _ (.head _)))))) (.cons (by exact (.tail _ (.tail _ (.tail _ (.tail _ (.tail _ (.head _))))))) (Sub.nil))))))) ?_
      refine HP.take (i := 10) rfl rfl (ltn rfl) (gives_of want_none (V.loadA ag69 rfl (by exact .mk .here (by repeat constructor)))) (.cons (by exact (.head _)) (.cons (by exact (.tail _ (.head _))) (.cons (by exact (.tail _ (.tail _ (.head _)))) (.cons (by exact (.tail _ (.tail _ (.tail _ (.head _))))) (.cons (by exact (.tail _ (.tail _ (.tail _ (.tail _ (.head _)))))) (.cons (by exact (.tail _ (.tail _ (.tail _ (.tail _ (.tail _ (.head _))))))) (Sub.nil))))))) ?_
      refine HP.take (i := 11) rfl rfl (ltn rfl) (gives_of want_none (V.lookup (K := keyT) (vf := vI) (v0 := 0) (k := (keyed t.held i)) Try.underlying62 ze3 rfl rfl (by exact keyed_key hf hb hm) (by exact HasM.own (.there (.there (.there (.there (.there .here)))))))) (.cons (by exact (.head _)) (.cons (by exact (.tail _ (.head _))) (.cons (by exact (.tail _ (.tail _ (.head _)))) (.cons (by exact (.tail _ (.tail _ (.tail _ (.head _))))) (.cons (by exact (.tail _ (.tail _ (.tail _ (.tail _ (.head _)))))) (.cons (by exact (.tail _ (.tail _ (.tail _ (.tail _ (.tail _ (.head _))))))) (Sub.nil))))))) ?_
      refine HP.take (i := 12) rfl rfl (ltn rfl) (gives_of want_none (V.assign rfl)) (.cons (by exact (.head _)) (.cons (by exact (.tail _ (.head _))) (.cons (by exact (.tail _ (.tail _ (.head _)))) (.cons (by exact (.tail _ (.tail _ (.tail _ (.head _))))) (.cons (by exact (.tail _ (.tail _ (.tail _ (.tail _ (.head _)))))) (.cons (by exact (.tail _ (.tail _ (.tail _ (.tail _ (.tail _ (.head _))))))) (Sub.nil))))))) ?_
      refine HP.take (i := 13) rfl rfl (ltn rfl) (gives_of want_none (V.assign rfl)) (.cons (by exact (.head _)) (.cons (by exact (.tail _ (.head _))) (.cons (by exact (.tail _ (.tail _ (.head _)))) (.cons (by exact (.tail _ (.tail _ (.tail _ (.head _))))) (.cons (by exact (.tail _ (.tail _ (.tail _ (.tail _ (.head _)))))) (.cons (by exact (.tail _ (.tail _ (.tail _ (.tail _ (.tail _ (.head _))))))) (Sub.nil))))))) ?_
      refine HP.done ?_
      refine HQ.keep (.cons (t := 6) rfl (.cons (t := 7) rfl (.nil))) ?_
      refine HQ.next ?_
      refine H.ret ?_
      refine HQ.end_ rfl rfl rfl rfl (.inl rfl) _ (fun a w s => res2 Try.results17 s rfl rfl) ?_
      refine ⟨[tabCell bT Ha t.held.length hc b1 b2 t.next, rowE (encI .i64) 3 Ha hc t.held, tabMap b1 t.known, tabMap b2 t.first], _, (by exact Rems.cons (by exact (.there (.there .here))) (Rems.cons (by exact (.there (.there .here))) (Rems.cons (by exact (.there (.there .here))) (Rems.cons (by exact (.there (.there .here))) (Rems.nil))))), ?_⟩
      obtain ⟨kv, hkv⟩ : ∃ kv, mget t.known (keyed t.held i) = some kv := Option.isSome_iff_exists.1 (by simpa using h35)
      rw [show reckon t n i = (kv, (mget t.first (keyed t.held i)).getD 0, t) by unfold reckon; rw [if_neg h13, hkv]]
      exact ⟨by rw [hkv]; rfl, rfl⟩
theorem newTable_w (p : Prg) (A : Option Addr) (n : Nat) (Bo : Option Addr) (m : Nat) (h1 : 1 ≤ p.ins) (h2 : p.ins ≤ p.regs) (h3 : p.regs ≤ 128) :
    Tri Try.prog 16 #[vPg p A n Bo m] [] [] (fun u L' => ∃ bT Ha hc b1 b2, u = .pointer (some ⟨bT, 0, none⟩) ∧ L' = [tabCell bT Ha (newTab p).held.length hc b1 b2 (newTab p).next, rowE (encI .i64) 3 Ha hc (newTab p).held, tabMap b1 (newTab p).known, tabMap b2 (newTab p).first]) := by
  refine Tri.of' 32 [vPg p A n Bo m] [(0, vPg p A n Bo m)] Try.func16 Try.ntmps16 rfl rfl rfl ?_
  intro w0
  refine H.seq ?_
  refine H.region ?_
  refine HO.box rfl rfl (ltn rfl) ?_
  intro b1
  refine HO.v (V.assign rfl) (ltn rfl) ?_
  refine HO.nil ?_
  refine HQ.next ?_
  refine H.seq ?_
  refine H.region ?_
  refine HO.makeMap (keyT) (vI) (ltn rfl) ?_
  intro b5
  refine HO.makeMap (keyT) (vI) (ltn rfl) ?_
  intro b6
  refine HO.v (V.fieldAddr (fs := #[]) fa29_0 rfl) (ltn rfl) ?_
  refine HO.v (V.load sc3 rfl (by exact .mk (.there (.there .here)) rfl)) (ltn rfl) ?_
  refine HO.v (V.add rfl rfl (by omega)) (ltn rfl) ?_
  refine HO.v (V.build ze64 pl64 rfl (.cons rfl (.cons rfl (.cons rfl (.nil)))) (.cons rfl rfl rfl (by repeat constructor) (.cons rfl rfl rfl (by repeat constructor) (.cons rfl rfl rfl (by repeat constructor) (.nil))))) (ltn rfl) ?_
  refine HO.box rfl rfl (ltn rfl) ?_
  intro b11
  refine HO.v (V.assign rfl) (ltn rfl) ?_
  refine HO.nil ?_
  refine HQ.keep (.cons (t := 1) rfl (.cons (t := 2) rfl (.cons (t := 3) rfl (.nil)))) ?_
  refine HQ.next ?_
  refine H.seq ?_
  refine H.seq ?_
  refine H.region ?_
  refine HO.v (V.fieldAddr (fs := #[]) fa29_1 rfl) (ltn rfl) ?_
  refine HO.v (V.load sc3 rfl (by exact .mk (.there (.there (.there .here))) rfl)) (ltn rfl) ?_
  refine HO.v (V.move rfl) (ltn rfl) ?_
  refine HO.nil ?_
  refine HQ.next ?_
  refine H.block ?_
  refine H.loop (σ := Nat × Option Addr × Nat) (fun s => p.regs.toNat - s.1) (fun s => [(1, .pointer (some ⟨b1, 0, none⟩)), (3, .pointer (some ⟨b11, 0, none⟩)), (13, .int .i64 p.regs), (14, .int .i64 ((s.1 : Nat) : Int))]) (fun s => [cellsCh b1 29 [.int .i64 p.ins, .int .i64 p.regs, .slice A p.code.length n, .slice Bo p.outs.length m], tabCell b11 s.2.1 (newHeld p.ins s.1).length s.2.2 b5 b6 (p.ins + 1), rowE (encI .i64) 3 s.2.1 s.2.2 (newHeld p.ins s.1), tabMap b5 [], tabMap b6 []]) (fun s => s.1 ≤ p.regs.toNat) ((0, none, 0)) ?_ ?_ ?_
  · exact Nat.zero_le _
  · skip
    refine HQ.free (rowE (encI .i64) 3 none 0 ([] : List Int)) rfl (fun w => OwnRow.nil w 3 1) ?_
    exact HQ.fits (.cons rfl (.cons rfl (.cons rfl (.cons rfl (.nil))))) (by exact Rems.cons (by exact (.there (.there (.there (.there .here))))) (Rems.cons (by exact (.there .here)) (Rems.cons (by exact .here) (Rems.cons (by exact (.there .here)) (Rems.cons (by exact .here) (Rems.nil))))))
  rintro ⟨k, Ak, ck⟩ hk
  dsimp only at hk ⊢
  have hnl : (newHeld p.ins k).length = k := by simp [newHeld]
  have hns : newHeld p.ins k ++ [if p.ins < (k : Int) then p.ins else (k : Int)] = newHeld p.ins (k + 1) := by simp [newHeld, List.range_succ]
  refine H.seq ?_
  refine H.region ?_
  refine HO.v (V.lss rfl rfl) (ltn rfl) ?_
  refine HO.nil ?_
  refine HQ.next ?_
  refine H.seq ?_
  refine H.condB rfl (fun h15 => ?_) (fun h15 => ?_)
  · skip
    try simp only [decide_eq_true_eq, decide_eq_false_iff_not, Bool.not_eq_true', Bool.not_eq_false'] at h15
    refine H.skip ?_
    refine HQ.next ?_
    refine H.seq ?_
    refine H.block ?_
    refine H.seq ?_
    refine H.region ?_
    refine HO.v (V.move rfl) (ltn rfl) ?_
    refine HO.v (V.assign rfl) (ltn rfl) ?_
    refine HO.nil ?_
    refine HQ.next ?_
    refine H.drawsP _ [13] [[], [], [1], [2], [3], [], [], [6], [5, 7], [8], [4, 9], [0, 0, 1, 2, 3, 4, 5, 6, 7, 8, 9, 10], [11, 0, 1, 2, 3, 4, 5, 6, 7, 8, 9, 10], [12, 10, 10, 0, 1, 2, 3, 4, 5, 6, 7, 8, 9, 10]] (.take 0 (.take 1 (.take 2 (.take 3 (.take 4 (.take 5 (.take 6 (.take 7 (.take 8 (.one 9 (.one 10 (.one 11 (.take 12 (.one 13 .done)))))))))))))) (Picks.sub (.cons (i := 0) rfl (.cons (i := 1) rfl (.nil)))) (by kernel_rfl) (by kernel_rfl) (by kernel_rfl) (by kernel_rfl) (by kernel_rfl) ?_
    refine HP.take (i := 0) rfl rfl (ltn rfl) (gives_of want_none (V.move rfl)) (.cons (by exact (.head _)) (.cons (by exact (.tail _ (.head _))) (Sub.nil))) ?_
    refine HP.take (i := 1) rfl rfl (ltn rfl) (gives_of want_none (V.move rfl)) (.cons (by exact (.head _)) (.cons (by exact (.tail _ (.head _))) (Sub.nil))) ?_
    refine HP.take (i := 2) rfl rfl (ltn rfl) (gives_of want_none (V.nilCheck rfl)) (.cons (by exact (.head _)) (.cons (by exact (.tail _ (.head _))) (Sub.nil))) ?_
    refine HP.take (i := 3) rfl rfl (ltn rfl) (gives_of want_none (V.fieldAddr (fs := #[]) fa64_0 rfl)) (.cons (by exact (.head _)) (.cons (by exact (.tail _ (.head _))) (Sub.nil))) ?_
    refine HP.take (i := 4) rfl rfl (ltn rfl) (gives_of want_none (V.load sc27 rfl (by exact .mk (.there .here) rfl))) (.cons (by exact (.head _)) (.cons (by exact (.tail _ (.head _))) (Sub.nil))) ?_
    refine HP.take (i := 5) rfl rfl (ltn rfl) (gives_of want_none (V.move rfl)) (.cons (by exact (.head _)) (.cons (by exact (.tail _ (.head _))) (Sub.nil))) ?_
    refine HP.take (i := 6) rfl rfl (ltn rfl) (gives_of want_none (V.fieldAddr (fs := #[]) fa29_0 rfl)) (.cons (by exact (.head _)) (.cons (by exact (.tail _ (.head _))) (Sub.nil))) ?_
    refine HP.take (i := 7) rfl rfl (ltn rfl) (gives_of want_none (V.load sc3 rfl (by exact .mk .here rfl))) (.cons (by exact (.head _)) (.cons (by exact (.tail _ (.head _))) (Sub.nil))) ?_
    refine HP.take (i := 8) rfl rfl (ltn rfl) (gives_of want_none (V.min rfl rfl)) (.cons (by exact (.head _)) (.cons (by exact (.tail _ (.head _))) (Sub.nil))) ?_
    refine HP.one (i := 9) rfl ?_
    intro fuel listed hno haf hrp hpk hfs
    refine HO.buildRow (encI .i64) ([if p.ins < (k : Int) then p.ins else (k : Int)]) Try.underlying27 ze3 (.cons rfl (.nil)) (.cons rfl (.nil)) (Nat.le_of_ble_eq_true rfl) (Nat.le_of_ble_eq_true rfl) (ltn rfl) ?_
    intro b26
    refine HO.nil ?_
    refine HQ.nxt hno haf hrp hpk hfs (.cons (by exact (.tail _ (.head _))) (.cons (by exact (.tail _ (.tail _ (.head _)))) (Sub.nil))) ?_
    refine HP.one (i := 10) rfl ?_
    intro fuel listed hno haf hrp hpk hfs
    refine HO.append (N := (encI .i64)) (zs := [if p.ins < (k : Int) then p.ins else (k : Int)]) Try.underlying27 ze3 rfl rfl rfl (by exact (.there (.there (.there .here)))) (by exact Has.own .here) (by simp; omega) (by decide) (ltn rfl) ?_
    intro A27 c27
    refine HO.nil ?_
    refine HQ.nxt hno haf hrp hpk hfs (.cons (by exact (.tail _ (.tail _ (.head _)))) (.cons (by exact (.tail _ (.tail _ (.tail _ (.head _))))) (Sub.nil))) ?_
    refine HP.one (i := 11) rfl ?_
    intro fuel listed hno haf hrp hpk hfs
    refine HO.v (V.nilCheck rfl) (ltn rfl) ?_
    refine HO.nil ?_
    refine HQ.nxt hno haf hrp hpk hfs (.cons (by exact (.tail _ (.tail _ (.head _)))) (.cons (by exact (.tail _ (.tail _ (.tail _ (.head _))))) (Sub.nil))) ?_
    refine HP.take (i := 12) rfl rfl (ltn rfl) (gives_of want_none (V.fieldAddr (fs := #[]) fa64_0 rfl)) (.cons (by exact (.tail _ (.tail _ (.head _)))) (.cons (by exact (.tail _ (.tail _ (.tail _ (.head _))))) (Sub.nil))) ?_
    refine HP.one (i := 13) rfl ?_
    intro fuel listed hno haf hrp hpk hfs
    refine HO.store sz27 rfl rfl rfl rfl rfl (by exact .mk (.there (.there (.there .here))) (by repeat constructor)) ?_
    refine HO.nil ?_
    refine HQ.nxtF (m := 13) hno haf hrp hpk hfs (by decide) (by kernel_rfl) rfl ?_
    refine HP.done ?_
    refine HQ.block_normal ?_
    refine HQ.next ?_
    refine H.region ?_
    rw [hns]
    refine HO.v (V.add rfl rfl (by omega)) (ltn rfl) ?_
    refine HO.v (V.move rfl) (ltn rfl) ?_
    refine HO.nil ?_
    refine HQ.round ((k + 1, A27, c27)) ?_ ?_ ?_
    · (dsimp only; omega)
    · (dsimp only; omega)
    · skip
      exact HQ.fits (.cons rfl (.cons rfl (.cons rfl (.cons rfl (.nil))))) (by exact Rems.cons (by exact (.there (.there (.there .here)))) (Rems.cons (by exact .here) (Rems.cons (by exact .here) (Rems.cons (by exact (.there .here)) (Rems.cons (by exact (.there .here)) (Rems.nil))))))
  · skip
    try simp only [decide_eq_true_eq, decide_eq_false_iff_not, Bool.not_eq_true', Bool.not_eq_false'] at h15
    refine H.exit ?_
    refine HQ.then_exit ?_
    refine HQ.then_exit ?_
    refine HQ.exit_hit ?_
    refine HQ.next ?_
    refine H.seq ?_
    refine H.region ?_
    refine HO.v (V.move rfl) (ltn rfl) ?_
    refine HO.v (V.assign rfl) (ltn rfl) ?_
    refine HO.nil ?_
    refine HQ.keep (.cons (t := 2) rfl (.nil)) ?_
    refine HQ.next ?_
    refine H.ret ?_
    obtain rfl : k = p.regs.toNat := by omega
    refine HQ.end_ rfl rfl rfl rfl (.inl rfl) _ (fun a w s => res1 Try.results16 s rfl) ?_
    refine ⟨[tabCell b11 Ak (newHeld p.ins p.regs.toNat).length ck b5 b6 (p.ins + 1), rowE (encI .i64) 3 Ak ck (newHeld p.ins p.regs.toNat), tabMap b5 [], tabMap b6 []], _, (by exact Rems.cons (by exact (.there .here)) (Rems.cons (by exact (.there .here)) (Rems.cons (by exact (.there .here)) (Rems.cons (by exact (.there .here)) (Rems.nil))))), ?_⟩
    exact ⟨_, _, _, _, _, rfl, rfl⟩

end Go.Proofs.Ytcmlghemanjaaaa
